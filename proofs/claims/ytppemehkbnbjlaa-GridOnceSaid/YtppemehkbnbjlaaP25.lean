/- GridOnce: no place is two users'; what is laid is taken as it was. -/
import Derived.Test.YtppemehkbnbjlaaM24
import Derived.Test.YtppemehkbnbjlaaP21
import Derived.Test.YtppemehkbnbjlaaV13
import Derived.Test.YtppemehkbnbjlaaLF
set_option linter.unusedVariables false
set_option linter.unusedSimpArgs false
namespace Go.Spec
open Go Go.Lift Go.Proofs
attribute [local irreducible] Go.Lift.awp Go.Lift.LoopOK Go.Lift.SumOK
theorem set_same {α : Type} (l : List α) (i : Nat) (d : α) (h : i < l.length) : l.set i (l.getD i d) = l := by
  apply List.ext_getElem?
  intro j
  by_cases e : i = j
  · subst e
    rw [List.getElem?_set_self h, List.getD_eq_getElem?_getD, List.getElem?_eq_getElem h]; rfl
  · rw [List.getElem?_set_ne e]
theorem l_keep_GridOnce_0 : LoopOK E_keep_GridOnce 0 (loopAt (bodyOf Try.f7) 0) L_keep_GridOnce_0 := I_keep_GridOnce_0 <| by
  intro t1 t9 r0 r1 r2 K hp ho
  obtain ⟨he, h1, h2, h3, hw, rfl⟩ := hp
  unfold B_keep_GridOnce_0
  unfold o_keep_GridOnce_0 at ho ⊢
  by_cases hlt : t9 ≤ 16
  · rw [condP_t (by simpa using hlt)]
    have hpf : placesF r0 t9 = (placesI r0 t9, 0) := by unfold placesF; rw [if_pos he]
    rw [hpf]
    refine ⟨trivial, ?_⟩
    rw [condP_f (c := ((0 : Int) != 0)) rfl]
    refine ⟨⟨he, h1, h2, hlt, rfl, by omega, by omega, hw, rfl⟩, fun es' hw' => ?_⟩
    rw [w64 (by omega)]
    have hl := partsTo_len r0 t1 (t9 - 1).toNat
    have hi : Int.toNat (((0 : Nat) : Int) + ((partsTo r0 t1 (t9 - 1).toNat).length : Int)) = (partsTo r0 t1 (t9 - 1).toNat).length := by omega
    have hgd : (List.append (partsTo r0 t1 (t9 - 1).toNat) [partW r0 t1 t9]).getD (partsTo r0 t1 (t9 - 1).toNat).length ((0 : Int), @List.nil (Int × Int × Unit), ()) = partW r0 t1 t9 := by
      show (partsTo r0 t1 (t9 - 1).toNat ++ [partW r0 t1 t9]).getD _ _ = _
      rw [List.getD_eq_getElem?_getD, List.getElem?_append_right (Nat.le_refl _)]; simp
    have hset : List.set (List.append (partsTo r0 t1 (t9 - 1).toNat) [partW r0 t1 t9]) (partsTo r0 t1 (t9 - 1).toNat).length (partW r0 t1 t9) = partsTo r0 t1 t9.toNat := by
      have h9 : t9.toNat = (t9 - 1).toNat + 1 := by omega
      have := set_same (List.append (partsTo r0 t1 (t9 - 1).toNat) [partW r0 t1 t9]) (partsTo r0 t1 (t9 - 1).toNat).length ((0 : Int), @List.nil (Int × Int × Unit), ()) (by
        show _ < (partsTo r0 t1 (t9 - 1).toNat ++ [partW r0 t1 t9]).length
        simp)
      rw [hgd] at this
      rw [this, h9, partsTo_succ, show (((t9 - 1).toNat : Nat) : Int) + 1 = t9 by omega]; rfl
    rw [hi, hgd]
    have hset' : List.set (List.append (partsTo r0 t1 (t9 - 1).toNat) [partW r0 t1 t9]) (partsTo r0 t1 (t9 - 1).toNat).length ((partW r0 t1 t9).1, (partW r0 t1 t9).2.1, (partW r0 t1 t9).2.2) = partsTo r0 t1 t9.toNat := hset
    rw [hset']
    refine ⟨by rw [hl]; simp only [List.length_cons, List.length_nil]; omega, ⟨he, h1, by omega, by omega, hw', by rw [show t9 + 1 - 1 = t9 by omega]⟩, by unfold m_keep_GridOnce_0; omega, ho⟩
  · rw [condP_f (by simpa using hlt)]
    have e : t9 = 17 := by omega
    subst e
    obtain ⟨es, rfl, hw⟩ := hw
    exact ho es ⟨es, rfl, hw⟩
theorem pointsW_succ (g : GR) (pts : List PT) (w : Int) (n : Nat) : pointsW g pts w (n + 1) = pointsW g pts w n ++ [pointW pts w n] := by
  unfold pointsW; rw [List.range_succ, List.map_append]; rfl
theorem l_keep_GridOnce_2 : LoopOK E_keep_GridOnce 2 (loopAt (bodyOf Try.f7) 2) L_keep_GridOnce_2 := I_keep_GridOnce_2 <| by
  intro t1 t9 t13 r0 r1 r2 r3 r4 K hp ho
  obtain ⟨he, h1, h2, h3, rfl, h4, h5, ⟨es, rfl, hw1, hw2⟩, rfl⟩ := hp
  have hlen := places_len (err_ok he).1 t9
  have h1' := h1
  rw [bigv] at h1'
  have e1 : (t13 + 1).toNat = t13.toNat + 1 := by omega
  unfold B_keep_GridOnce_2
  unfold o_keep_GridOnce_2 at ho ⊢
  by_cases hlt : t13 < ((placesI r0 t9).length : Int)
  · rw [condP_t (by simpa using hlt)]
    have hi : t13.toNat < (placesI r0 t9).length := by omega
    have hgp : (placesI r0 t9).getD t13.toNat pt0 = (placesI r0 t9)[t13.toNat] := by rw [List.getD_eq_getElem?_getD, List.getElem?_eq_getElem hi]; rfl
    have hmem := List.getElem_mem hi
    have hts := take_snoc (placesI r0 t9) t13.toNat pt0 hi
    rw [hgp] at hts
    have hfr : ¬ (findK kPL es (placesI r0 t9)[t13.toNat]).getD 0 > 0 := by
      intro hgt
      rcases hw1 _ hgt with ⟨v, v1, v2, v3⟩ | h
      · have hm : (placesI r0 t9)[t13.toNat] ∈ placesR r0 t9 := by rw [← places_eq he t9]; exact hmem
        rw [places_eq he v] at v3
        have := places_one hm v3
        omega
      · obtain ⟨j, hj, e⟩ := List.getElem_of_mem h
        rw [List.getElem_take] at e
        have hj' : j < t13.toNat := by simp at hj; omega
        have := nodup_idx (l := placesI r0 t9) (by rw [places_eq he]; exact placesR_nodup r0 t9) (by omega) hi e
        omega
    have hgd : (placesI r0 t9).getD t13.toNat ((0 : Int), (0 : Int), ()) = (placesI r0 t9)[t13.toNat] := hgp
    refine ⟨h4, hlt, ?_⟩
    simp only [hgd]
    rw [condP_f (decide_eq_false hfr)]
    refine ⟨h4, hlt, rfl, ?_⟩
    have hwh : whoseP (some (putK kPL es (placesI r0 t9)[t13.toNat] t9)) r0 t9 (t13 + 1).toNat := by
      refine ⟨_, rfl, fun p hp => ?_, fun _ => putK_ne (k := kPL) es _ _⟩
      rw [e1, hts]
      by_cases e : p = (placesI r0 t9)[t13.toNat]
      · right; rw [e]; exact List.mem_append_right _ (.head _)
      · rw [(findK_put (k := kPL) kPL_law es _ p t9).2 e] at hp
        rcases hw1 p hp with h | h
        · exact .inl h
        · exact .inr (List.mem_append_left _ h)
    have hps : pointsW r0 t1 t9 (t13 + 1).toNat = pointsW r0 t1 t9 t13.toNat ++ [pointW t1 t9 t13.toNat] := by rw [e1, pointsW_succ]
    have hpl : (pointsW r0 t1 t9 t13.toNat).length = t13.toNat := by unfold pointsW; simp
    have h64 : IntKind.wrap .i64 (t13 + 1) = t13 + 1 := w64 (by omega)
    rw [h64]
    have fin : ∀ (r4' : PA), r4' = (t9, pointsW r0 t1 t9 (t13 + 1).toNat, ()) →
        p_keep_GridOnce_2 t1 t9 (t13 + 1) r0 (some (putK kPL es (placesI r0 t9)[t13.toNat] t9)) r2 (placesI r0 t9) r4' ∧
        m_keep_GridOnce_2 t1 t9 (t13 + 1) r0 (some (putK kPL es (placesI r0 t9)[t13.toNat] t9)) r2 (placesI r0 t9) r4' < m_keep_GridOnce_2 t1 t9 t13 r0 (some es) r2 (placesI r0 t9) (t9, pointsW r0 t1 t9 t13.toNat, ()) := by
      intro r4' e
      exact ⟨⟨he, h1, h2, h3, rfl, by omega, by omega, hwh, e⟩, by unfold m_keep_GridOnce_2; omega⟩
    by_cases hpos : (t1.length : Int) > 0
    · rw [condP_t (by simpa using hpos)]
      have hmod : Int.tmod t13 (t1.length : Int) = ((t13.toNat % t1.length : Nat) : Int) := by
        obtain ⟨n, hn⟩ := Int.eq_ofNat_of_zero_le h4
        rw [hn, Int.toNat_natCast, Int.tmod_eq_emod_of_nonneg (by omega)]; exact (Int.natCast_emod n t1.length).symm
      have hlt2 := Nat.mod_lt t13.toNat (show t1.length > 0 by omega)
      rw [hmod, Int.toNat_natCast]
      obtain ⟨n1, n2⟩ := fin (t9, List.append (pointsW r0 t1 t9 t13.toNat) [t1.getD (t13.toNat % t1.length) ((0 : Int), (0 : Int), ())], ()) (by
        rw [hps]
        have : pointW t1 t9 t13.toNat = t1.getD (t13.toNat % t1.length) pt0 := by unfold pointW; rw [if_pos (by omega)]
        rw [this]; rfl)
      refine ⟨by omega, by omega, by omega, ?_, n1, n2, ho⟩
      show ((pointsW r0 t1 t9 t13.toNat).length + 1) * 16 ≤ _
      rw [hpl]; omega
    · rw [condP_f (by simpa using hpos)]
      obtain ⟨n1, n2⟩ := fin (t9, List.append (pointsW r0 t1 t9 t13.toNat) [(t9, t13, ())], ()) (by
        rw [hps]
        have : pointW t1 t9 t13.toNat = (t9, t13, ()) := by unfold pointW; rw [if_neg (by omega), show ((t13.toNat : Nat) : Int) = t13 by omega]
        rw [this]; rfl)
      refine ⟨?_, n1, n2, ho⟩
      show ((pointsW r0 t1 t9 t13.toNat).length + 1) * 16 ≤ _
      rw [hpl]; omega
  · rw [condP_f (by simpa using hlt)]
    have e : t13.toNat = (placesI r0 t9).length := by omega
    have hx := ho es ⟨es, rfl, fun p hp => ?_, fun hv => ?_⟩
    · rw [e]; exact hx
    · rcases hw1 p hp with ⟨v, v1, v2, v3⟩ | h
      · exact .inl ⟨v, v1, by omega, v3⟩
      · exact .inl ⟨t9, h2, by omega, List.mem_of_mem_take h⟩
    · apply hw2
      rcases hv with ⟨v, v1, v2, v3⟩ | ⟨h, _⟩
      · by_cases e2 : v = t9
        · subst e2
          have : 0 < (placesI r0 v).length := List.length_pos_iff.2 v3
          exact .inr ⟨by omega, v3⟩
        · exact .inl ⟨v, v1, by omega, v3⟩
      · omega
theorem l_keep_GridOnce_4 : LoopOK E_keep_GridOnce 4 (loopAt (bodyOf Try.f7) 4) L_keep_GridOnce_4 := I_keep_GridOnce_4 <| by
  intro t17 r0 r1 r2 K hp ho
  obtain ⟨he, h1, h2, pts, rfl, rfl⟩ := hp
  unfold B_keep_GridOnce_4
  unfold o_keep_GridOnce_4 at ho ⊢
  by_cases hlt : t17 ≤ 16
  · rw [condP_t (by simpa using hlt)]
    have htk := take_parts he pts h1 hlt
    obtain ⟨_, hro, _⟩ := lay_parts he pts
    have hlen := places_len (err_ok he).1 t17
    have hpw : (partW r0 pts t17).2.1.length = (placesI r0 t17).length := by simp [partW, pointsW]
    simp only [htk]
    refine ⟨by rw [hro.1, bigv]; decide, ?_⟩
    rw [condP_t (c := !((0 : Int) != 0)) rfl]
    have hw : IntKind.wrap .i64 (t17 - 1) = t17 - 1 := w64 (by omega)
    have hi : (t17 - 1).toNat < (partsTo r0 pts 16).length := by rw [partsTo_len]; omega
    have hgd : (partsTo r0 pts 16).getD (t17 - 1).toNat ((0 : Int), @List.nil (Int × Int × Unit), ()) = partW r0 pts t17 := by
      rw [List.getD_eq_getElem?_getD, partsTo_at r0 pts (show (t17 - 1).toNat < 16 by omega), show (((t17 - 1).toNat : Nat) : Int) + 1 = t17 by omega]; rfl
    simp only [hw, hgd]
    have hset : (partsTo r0 pts 16).set (t17 - 1).toNat ((partW r0 pts t17).1, (partW r0 pts t17).2.1, (partW r0 pts t17).2.2) = partsTo r0 pts 16 := by
      have := set_same (partsTo r0 pts 16) (t17 - 1).toNat ((0 : Int), @List.nil (Int × Int × Unit), ()) hi
      rw [hgd] at this
      exact this
    rw [hset, w64 (n := t17 + 1) (by omega)]
    have v1 : 0 ≤ t17 - 1 := by omega
    have v2 : t17 - 1 < ((partsTo r0 pts 16).length : Int) := by omega
    have v3 : ((0 : Int) != 0) = false := rfl
    refine ⟨v3, v3, v3, v3, v3, v1, v2, v3, v1, v2, v3, trivial, v3, by rw [hpw, bigv]; omega, v3, ?_⟩
    rw [condP_f (by simp)]
    exact ⟨⟨he, by omega, by omega, pts, rfl, rfl⟩, by unfold m_keep_GridOnce_4; omega, ho⟩
  · rw [condP_f (by simpa using hlt)]
    exact ho
theorem ok_keep_GridOnce : SumOK Try.prog 7 S_keep_GridOnce := by
  refine whole_keep_GridOnce ok_grid_Check ok_grid_Lay ok_grid_Places ok_grid_Take ok_R_SamePoints l_keep_GridOnce_0 l_keep_GridOnce_2 l_keep_GridOnce_4 ?_
  intro a0 a1 hp
  have hp : (a1.length : Int) ≤ big := hp
  unfold W_keep_GridOnce
  refine ⟨trivial, ?_⟩
  by_cases he : gridErr a0 = 0
  · rw [condP_f (by simp [he])]
    refine ⟨⟨he, hp, by omega, by omega, ⟨[], rfl, fun p h => by simp [findK] at h, fun h => ?_⟩, rfl⟩, fun es' hw => ?_⟩
    · exfalso
      rcases h with ⟨v, h1, h2, _⟩ | ⟨h, _⟩
      · omega
      · omega
    · obtain ⟨l1, l2, l3⟩ := lay_parts he a1
      refine ⟨by rw [partsTo_len, bigv]; decide, ?_⟩
      obtain ⟨es, e, _, hw2⟩ := hw
      cases e
      have hne : (if decide ((a0.2.1.length : Int) > 0) = true then mlen (Ty.pair (Ty.int IntKind.i64) (Ty.pair (Ty.int IntKind.i64) Ty.unit)) (Ty.int IntKind.i64) (some es') == (0 : Int) else false) = false := by
        by_cases hs : a0.2.1 = []
        · simp [hs]
        · obtain ⟨v, v1, v2, v3⟩ := share_place he hs
          have hes := hw2 (.inl ⟨v, v1, v2, v3⟩)
          have : (mlen (Ty.pair (Ty.int IntKind.i64) (Ty.pair (Ty.int IntKind.i64) Ty.unit)) (Ty.int IntKind.i64) (some es') == (0 : Int)) = false := by
            unfold mlen
            have := List.length_pos_iff.2 hes
            simp only [beq_eq_false_iff_ne, ne_eq]
            intro e0
            omega
          rw [this]; simp
      rw [condP_f (by rw [l1, l2.1, hne]; rfl)]
      exact ⟨⟨he, by omega, by omega, a1, rfl, rfl⟩, rfl, trivial⟩
  · rw [condP_t (by simp [he])]
    have e2 : layG a0 [] = ([], gridErr a0) := by unfold layG; rw [if_neg he]
    refine ⟨by rw [bigv]; decide, ?_, trivial⟩
    rw [e2]
    simp [he]
theorem pre_keep_GridOnce (x : dens S_keep_GridOnce.par) (h : wfs S_keep_GridOnce.par x) : S_keep_GridOnce.pre x := by
  obtain ⟨a0, a1, ⟨⟩⟩ := x
  obtain ⟨_, ⟨h1, _⟩, _⟩ := h
  have h1 : (List.length a1 : Int) ≤ 140737488351232 := h1
  show (List.length a1 : Int) ≤ big
  rw [bigv]; omega
end Go.Spec
