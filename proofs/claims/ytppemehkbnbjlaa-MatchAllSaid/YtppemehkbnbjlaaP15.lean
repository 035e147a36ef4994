/- The law of all that is matched: its rounds. -/
import Derived.Test.YtppemehkbnbjlaaP14
set_option linter.unusedVariables false
set_option linter.unusedSimpArgs false
namespace Go.Spec
open Go Go.Lift Go.Proofs
attribute [local irreducible] Go.Lift.awp Go.Lift.LoopOK Go.Lift.SumOK
theorem l_keep_MatchAll_4 : LoopOK E_keep_MatchAll 4 (loopAt (bodyOf Try.f5) 4) L_keep_MatchAll_4 := I_keep_MatchAll_4 <| by
  intro t1 t2 t15 t16 t17 r0 r1 r2 K hp ho
  obtain ⟨hc, hs, h3, h4, h5, h6, h7, h8, a, b, rfl, rfl, ha, hb, hab⟩ := hp
  obtain ⟨i, rfl⟩ := Int.eq_ofNat_of_zero_le h3
  obtain ⟨k, rfl⟩ := Int.eq_ofNat_of_zero_le (show (0 : Int) ≤ t15 by omega)
  unfold B_keep_MatchAll_4
  unfold o_keep_MatchAll_4 at ho ⊢
  have hcl := hc.2.1
  have hr0 : (r0.length : Int) ≤ big ∧ ∀ y, y ∈ r0 → 0 ≤ y := ⟨by rw [big_val]; omega, fun y hy => by rcases hc.2.2 y hy with rfl | rfl <;> decide⟩
  have hcd : ∀ j : Nat, bits BinOp.and .i64 (t2.getD j 0) 1023 = cntAt t2 j := fun _ => rfl
  have hrr : ∀ j : Nat, hrd (pickOf r0 (Int.tmod (j : Int) 4) (cntAt t2 j)) (smallL t1) = roundS r0 t1 t2 j := fun _ => rfl
  have hsl : ((smallL t1).length : Int) ≤ big := by
    have : (t1.length : Int) * 8 ≤ 140737488351232 := hs
    rw [big_val]; simp [smallL]; omega
  have hlen : ∀ j : Nat, ((pickOf r0 (Int.tmod (j : Int) 4) (cntAt t2 j)).length : Int) ≤ 1000000 ∧ ((roundS r0 t1 t2 j).length : Int) ≤ big := fun j => by
    have h1 := cnt_range t2 j
    have h2 := round_length hc t1 t2 j
    rw [(pick_round hc t2 j).2, h2, big_val]
    simp [pickL, pickedL]; omega
  have hbd : ∀ (x : Nat) (q : Int), x ≤ 8 → -32736 ≤ tot r0 t1 t2 x q ∧ tot r0 t1 t2 x q ≤ 32736 := fun x q hx => by
    have := tot_bound hc t1 t2 q x
    omega
  refine condP_iff.2 ⟨fun hlt => ?_, fun hge => ?_⟩
  · have hlt : t17 < 2 := of_decide_eq_true hlt
    rw [i64w (n := t17 + 1) (by omega)]
    refine condP_iff.2 ⟨fun h1 => ?_, fun h1 => ?_⟩
    · obtain rfl : t17 = 1 := eq_of_beq h1
      have x1 : (if (1 : Int) ≤ 1 then (i : Int) + 1 else (i : Int)).toNat = i + 1 := by rw [if_pos (by decide)]; omega
      have y1 : (if (2 : Int) ≤ 1 then (k : Int) - (i : Int) - 1 else (k : Int) - (i : Int)).toNat = k - i := by rw [if_neg (by decide)]; omega
      have x2 : (if (1 : Int) ≤ 1 + 1 then (i : Int) + 1 else (i : Int)).toNat = i + 1 := by rw [if_pos (by decide)]; omega
      have y2 : (if (2 : Int) ≤ 1 + 1 then (k : Int) - (i : Int) - 1 else (k : Int) - (i : Int)).toNat = k - i - 1 := by rw [if_pos (by decide)]; omega
      rw [x1, y1, Int.toNat_natCast] at hab
      have hj : IntKind.wrap .i64 (IntKind.wrap .i64 ((k : Int) - 1) - (i : Int)) = ((k - i - 1 : Nat) : Int) := by rw [i64w (n := (k : Int) - 1) (by omega), i64w (by omega)]; omega
      rw [hj]
      simp only [Int.toNat_natCast, Option.getD_some, hcd, hrr]
      have hB : ∀ q : Nat, q < b.length → -90000 ≤ b.getD q 0 ∧ b.getD q 0 ≤ 90000 := fun q hq => by
        have g := (hab q (by omega)).2
        have g1 := hbd k q (by omega)
        have g2 := hbd (k - i) q (by omega)
        omega
      obtain ⟨p1, p2⟩ := pick_round hc t2 (k - i - 1)
      obtain ⟨e1, e2, e3⟩ := add_round hc t1 t2 (k - i - 1) hb hB
      obtain ⟨l1, l2⟩ := hlen (k - i - 1)
      rw [p1, e1]
      refine ⟨by decide, by omega, by omega, hr0, condP_iff.2 ⟨fun hx => absurd hx (by decide), fun _ => ⟨hs, ⟨l1, hsl⟩, by decide, rfl, ⟨by omega, l2⟩, condP_iff.2 ⟨fun hx => absurd hx (by decide), fun _ => ⟨⟨hc, hs, h3, h4, h5, h6, by omega, by omega, ?_⟩, by unfold m_keep_MatchAll_4; omega, ho⟩⟩⟩⟩⟩
      rw [x2, y2, Int.toNat_natCast]
      refine ⟨a, _, rfl, rfl, ha, e2, fun q hq => ⟨(hab q hq).1, ?_⟩⟩
      rw [e3 q hq, (hab q hq).2]
      have : tot r0 t1 t2 (k - i) q = tot r0 t1 t2 (k - i - 1) q + con r0 t1 t2 (k - i - 1) q := by
        have e : k - i = (k - i - 1) + 1 := by omega
        rw [e]; rfl
      omega
    · have h1 : t17 ≠ 1 := ne_of_beq_false h1
      obtain rfl : t17 = 0 := by omega
      have x1 : (if (1 : Int) ≤ 0 then (i : Int) + 1 else (i : Int)).toNat = i := by rw [if_neg (by decide)]; omega
      have y1 : (if (2 : Int) ≤ 0 then (k : Int) - (i : Int) - 1 else (k : Int) - (i : Int)).toNat = k - i := by rw [if_neg (by decide)]; omega
      have x2 : (if (1 : Int) ≤ 0 + 1 then (i : Int) + 1 else (i : Int)).toNat = i + 1 := by rw [if_pos (by decide)]; omega
      have y2 : (if (2 : Int) ≤ 0 + 1 then (k : Int) - (i : Int) - 1 else (k : Int) - (i : Int)).toNat = k - i := by rw [if_neg (by decide)]; omega
      rw [x1, y1, Int.toNat_natCast] at hab
      simp only [Int.toNat_natCast, Option.getD_some, hcd, hrr]
      have hB : ∀ q : Nat, q < a.length → -90000 ≤ a.getD q 0 ∧ a.getD q 0 ≤ 90000 := fun q hq => by
        have g := (hab q (by omega)).1
        have g1 := hbd i q (by omega)
        omega
      obtain ⟨p1, p2⟩ := pick_round hc t2 i
      obtain ⟨e1, e2, e3⟩ := add_round hc t1 t2 i ha hB
      obtain ⟨l1, l2⟩ := hlen i
      rw [p1, e1]
      refine ⟨by decide, h3, by omega, hr0, condP_iff.2 ⟨fun hx => absurd hx (by decide), fun _ => ⟨hs, ⟨l1, hsl⟩, by decide, rfl, ⟨by omega, l2⟩, condP_iff.2 ⟨fun hx => absurd hx (by decide), fun _ => ⟨⟨hc, hs, h3, h4, h5, h6, by omega, by omega, ?_⟩, by unfold m_keep_MatchAll_4; omega, ho⟩⟩⟩⟩⟩
      rw [x2, y2, Int.toNat_natCast]
      refine ⟨_, b, rfl, rfl, e2, hb, fun q hq => ⟨?_, (hab q hq).2⟩⟩
      rw [e3 q hq, (hab q hq).1]; rfl
  · have hge : ¬ t17 < 2 := of_decide_eq_false hge
    obtain rfl : t17 = 2 := by omega
    refine ho a b ?_
    have x1 : (if (1 : Int) ≤ 2 then (i : Int) + 1 else (i : Int)).toNat = ((i : Int) + 1).toNat := by rw [if_pos (by decide)]
    have y1 : (if (2 : Int) ≤ 2 then (k : Int) - (i : Int) - 1 else (k : Int) - (i : Int)).toNat = ((k : Int) - ((i : Int) + 1)).toNat := by rw [if_pos (by decide)]; omega
    rw [x1, y1] at hab
    exact ⟨a, b, rfl, rfl, ha, hb, hab⟩
theorem l_keep_MatchAll_2 : LoopOK E_keep_MatchAll 2 (loopAt (bodyOf Try.f5) 2) L_keep_MatchAll_2 := I_keep_MatchAll_2 <| by
  intro t1 t2 t15 t16 r0 r1 r2 K hp ho
  obtain ⟨hc, hs, h3, h4, h5, h6, hab⟩ := hp
  unfold B_keep_MatchAll_2
  unfold o_keep_MatchAll_2 at ho ⊢
  refine condP_iff.2 ⟨fun hlt => ?_, fun hge => ?_⟩
  · have hlt : t16 < t15 := of_decide_eq_true hlt
    rw [i64w (n := t16 + 1) (by omega)]
    refine ⟨⟨hc, hs, h3, hlt, h5, h6, Int.le_refl _, by decide, ?_⟩, fun a b hab' => ⟨⟨hc, hs, by omega, by omega, h5, h6, hab'⟩, by unfold m_keep_MatchAll_2; omega, ho⟩⟩
    rw [if_neg (by decide), if_neg (by decide)]
    exact hab
  · have hge : ¬ t16 < t15 := of_decide_eq_false hge
    obtain rfl : t16 = t15 := by omega
    have e : (t16 - t16).toNat = 0 := by omega
    rw [e] at hab
    obtain ⟨a, b, rfl, rfl, hab⟩ := hab
    exact ho a b ⟨a, b, rfl, rfl, hab⟩
theorem good_coded {a0 : List Int} (h : ∀ y ∈ a0, 0 ≤ y) : (goodL a0 600).length ≤ 600 ∧ ∀ y ∈ goodL a0 600, y = 0 ∨ y = 1 := by
  refine ⟨by simp [goodL]; omega, fun y hy => ?_⟩
  obtain ⟨x, hx, rfl⟩ := List.mem_map.1 hy
  have := h x (List.mem_of_mem_take hx)
  omega
theorem ok_keep_MatchAll : SumOK Try.prog 5 S_keep_MatchAll := by
  refine whole_keep_MatchAll ok_keep_good ok_match_Order ok_match_New ok_match_Pick ok_keep_small ok_keep_heard ok_match_Buffer_Add ok_match_Buffer_Soft ok_R_SameInts l_keep_MatchAll_0 l_keep_MatchAll_2 l_keep_MatchAll_4 l_keep_MatchAll_6 ?_
  intro a0 a1 a2 hp
  obtain ⟨⟨hb, hn⟩, hs, h2⟩ := hp
  unfold W_keep_MatchAll
  obtain ⟨g1, g2⟩ := good_coded hn
  generalize goodL a0 600 = c at g1 g2
  have e1 : orderErr (c.length : Int) = 0 := by unfold orderErr; rw [if_pos (by omega)]
  have e2 : orderOf (c.length : Int) = turnL (c.length : Int) := by unfold orderOf; rw [if_pos (by omega)]
  have hl : (turnL (c.length : Int)).length = c.length := by rw [turnL_length (by omega)]; omega
  rw [e1, e2]
  refine ⟨⟨hb, hn, by decide, by decide⟩, trivial, ⟨turnL_nodup _, by omega, Int.le_refl _, by omega, [], rfl, rfl, fun k hk => by simp [getE] at hk⟩, fun es hes => ?_⟩
  have hm : mlen (Ty.int .i64) (Ty.int .i64) (some es) = (c.length : Int) := by
    show ((List.length es : Nat) : Int) = _
    omega
  rw [hm, hl]
  refine condP_iff.2 ⟨fun hx => absurd hx (by simp), fun _ => ⟨trivial, trivial, condP_iff.2 ⟨fun hx => ?_, fun hx => ?_⟩⟩⟩
  · by_cases h1 : 1 ≤ (c.length : Int) ∧ (c.length : Int) ≤ 4096
    · rw [if_pos h1] at hx; exact absurd hx (by decide)
    · exact ⟨by simp; apply List.length_eq_zero_iff.1; omega, trivial⟩
  · have h1 : 1 ≤ (c.length : Int) ∧ (c.length : Int) ≤ 4096 := by
      by_cases h1 : 1 ≤ (c.length : Int) ∧ (c.length : Int) ≤ 4096
      · exact h1
      · rw [if_neg h1] at hx; exact absurd hx (by decide)
    have hC : Coded c := ⟨by omega, g1, g2⟩
    rw [if_pos h1]
    have hk : 0 ≤ lesser false (a2.length : Int) 8 ∧ lesser false (a2.length : Int) 8 ≤ 8 ∧ lesser false (a2.length : Int) 8 ≤ a2.length := by
      simp only [lesser]
      split <;> simp_all <;> omega
    generalize lesser false (a2.length : Int) 8 = k at hk
    obtain ⟨k1, k2, k3⟩ := hk
    refine ⟨⟨hC, hs, Int.le_refl _, k1, k2, k3, List.replicate (c.length : Int).toNat 0, List.replicate (c.length : Int).toNat 0, rfl, rfl, by simp, by simp, fun q hq => ?_⟩, fun a b hab => ?_⟩
    · have e : (List.replicate (c.length : Int).toNat (0 : Int)).getD q 0 = 0 := by
        rw [List.getD_eq_getElem?_getD, List.getElem?_replicate]
        split <;> rfl
      rw [e, Int.sub_zero]
      exact ⟨rfl, by omega⟩
    · obtain ⟨a', b', ea, eb, ha, hb', hq⟩ := hab
      have ea : a = a' := by simpa using ea
      have eb : b = b' := by simpa using eb
      subst ea; subst eb
      have hab : a = b := by
        refine List.ext_getElem (by omega) fun i h1 h2 => ?_
        obtain ⟨q1, q2⟩ := hq i (by omega)
        rw [List.getD_eq_getElem?_getD, List.getElem?_eq_getElem h1, Option.getD_some] at q1
        rw [List.getD_eq_getElem?_getD, List.getElem?_eq_getElem h2, Option.getD_some] at q2
        rw [q1, q2]; simp [tot]
      subst hab
      have hne : ((a.length : Int) != (c.length : Int)) = false := by rw [ha]; simp
      have h6 : p_keep_MatchAll_6 0 c a := ⟨ha, g1, Int.le_refl _, by omega, fun q hq' => by rw [(hq q hq').1]; exact tot_sign hC a1 a2 q hq' _⟩
      refine ⟨rfl, by show a.length ≤ 4096; omega, condP_iff.2 ⟨fun _ => ⟨hne, hne, hne, rfl, by show a.length ≤ 4096; omega, hne, by show (a.length : Int) ≤ big; rw [big_val]; omega, hne, condP_iff.2 ⟨fun hx => ?_, fun _ => ⟨h6, rfl, trivial⟩⟩⟩, fun hx => ?_⟩⟩
      · simp only [hne] at hx; simp at hx
      · simp only [hne] at hx; simp at hx
theorem pre_keep_MatchAll (x : dens S_keep_MatchAll.par) (h : wfs S_keep_MatchAll.par x) : S_keep_MatchAll.pre x := by
  obtain ⟨a0, a1, a2, ⟨⟩⟩ := x
  obtain ⟨⟨h1, h2, _⟩, ⟨_, _, h3⟩, ⟨h4, _, _⟩, _⟩ := h
  have h1 : (List.length a0 : Int) ≤ 140737488351232 := h1
  have h4 : (List.length a2 : Int) ≤ 140737488351232 := h4
  have hu8 : ∀ x : Int, (Ty.int .u8).wfd x → 0 ≤ x := fun x h => by
    have h : (Lit.int .u8 x).wf = true := h
    simp [Lit.wf, IntKind.min, IntKind.max, IntKind.signed, IntKind.bits] at h
    omega
  refine ⟨⟨?_, fun y hy => hu8 y (h2 y hy)⟩, h3, ?_⟩
  · rw [big_val]; show (List.length a0 : Int) ≤ _; omega
  · rw [big_val]; show (List.length a2 : Int) ≤ _; omega
end Go.Spec
