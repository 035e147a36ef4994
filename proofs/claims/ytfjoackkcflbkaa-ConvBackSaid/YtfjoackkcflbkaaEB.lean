/- Lines for the functions of this seat; merged from texts of their own. -/
import Derived.Test.YtfjoackkcflbkaaEA
import Derived.Test.YtfjoackkcflbkaaLF
import Derived.Test.YtfjoackkcflbkaaE3
set_option linter.unusedVariables false
set_option linter.unusedSimpArgs false
/- Plain facts: no way scores more; what is coded and heard with its signs is decoded as it was. -/
namespace Go.Spec
open Go Go.Lift
theorem score_GL {soft o : List Int} (hs : Softs soft) (hb : Bits o) (hl : o.length ≤ 400) : scoreF 0 (encL o) soft = GL soft 0 0 (o ++ zs 6) := by
  have h1 := encL_length o
  rw [scoreF_scp _ _ _ hs (by omega) (by omega), Int.zero_add]
  exact enc_GL soft (o ++ zs 6) 0 0 (hb.app (zs_bits 6))
theorem encErr_good {b : List Int} (hb : Bits b) (hl : b.length ≤ 400) : encErr b = 0 := by
  unfold encErr
  rw [if_pos (bitsErr_bits hb (by omega)), if_neg (by omega)]
theorem scoreOf_GL {soft o : List Int} (hs : Softs soft) (hb : Bits o) (hl : o.length ≤ 400) (hn : soft.length = 3 * o.length + 18) : scoreErr o soft = 0 ∧ scoreOf o soft = GL soft 0 0 (o ++ zs 6) := by
  have h1 : scoreErr o soft = 0 := by
    unfold scoreErr
    rw [if_neg (by rw [encErr_good hb hl]; simp), if_pos ⟨softB_spec.2 hs, by rw [encL_length]; omega⟩]
  refine ⟨h1, ?_⟩
  unfold scoreOf
  rw [if_pos h1, score_GL hs hb hl]
theorem dec_best {soft : List Int} (h : decErr soft = 0) : IsBest soft (decN soft) (decN soft) 0 (decV soft) (decL soft) := by
  unfold decV decL decB
  rw [if_pos h, if_pos h]
  exact Bst_best soft _ _ 0 (Nat.le_refl _)
/-! heard with its signs -/
def lvF (loud : List Int) (i : Nat) : Int :=
  if loud = [] then 1 else if loud.getD (i % loud.length) 0 < 1 ∨ loud.getD (i % loud.length) 0 > 100000 then 7 else loud.getD (i % loud.length) 0
theorem lvF_bd (loud : List Int) (i : Nat) : 1 ≤ lvF loud i ∧ lvF loud i ≤ 100000 := by
  unfold lvF
  split
  · decide
  · split
    · decide
    · omega
def hrd (c loud : List Int) : List Int := seg (fun i => sgS (c.getD i 0) (lvF loud i)) 0 c.length
theorem hrd_length (c loud : List Int) : (hrd c loud).length = c.length := by unfold hrd; rw [seg_length]; omega
theorem hrd_softs (c loud : List Int) : Softs (hrd c loud) := by
  intro x hx
  unfold hrd seg at hx
  obtain ⟨i, _, rfl⟩ := List.mem_map.1 hx
  have := lvF_bd loud (0 + i)
  show -100000 ≤ sgS (c.getD (0 + i) 0) (lvF loud (0 + i)) ∧ sgS (c.getD (0 + i) 0) (lvF loud (0 + i)) ≤ 100000
  unfold sgS
  split <;> omega
def Sgn : List Int → List Int → Prop
  | [], [] => True
  | x :: c, y :: s => (x = 1 → y ≤ -1) ∧ (x ≠ 1 → 1 ≤ y) ∧ Sgn c s
  | _, _ => False
theorem Sgn_seg (loud : List Int) : ∀ (c : List Int) (k : Nat), Sgn c ((List.range c.length).map fun i => sgS (c.getD i 0) (lvF loud (k + i)))
  | [], _ => trivial
  | x :: c, k => by
    rw [List.length_cons, List.range_succ_eq_map, List.map_cons, List.map_map]
    have h := lvF_bd loud (k + 0)
    refine ⟨fun hx => ?_, fun hx => ?_, ?_⟩
    · show sgS x (lvF loud (k + 0)) ≤ -1
      unfold sgS; rw [if_pos hx]; omega
    · show 1 ≤ sgS x (lvF loud (k + 0))
      unfold sgS; rw [if_neg hx]; omega
    · have := Sgn_seg loud c (k + 1)
      have e : (fun i => sgS (c.getD i 0) (lvF loud (k + 1 + i))) = (fun i => sgS ((x :: c).getD i 0) (lvF loud (k + i))) ∘ Nat.succ := by
        funext i
        show _ = sgS (c.getD i 0) (lvF loud (k + (i + 1)))
        rw [show k + 1 + i = k + (i + 1) by omega]
      rw [e] at this
      exact this
theorem hrd_sgn (c loud : List Int) : Sgn c (hrd c loud) := by
  have := Sgn_seg loud c 0
  unfold hrd seg
  simpa using this
theorem scp_most : ∀ (c d s : List Int), Bits c → Bits d → c.length = d.length → Sgn c s → scp d s ≤ scp c s ∧ (scp d s = scp c s → d = c)
  | [], [], s, _, _, _, _ => ⟨Int.le_refl _, fun _ => rfl⟩
  | [], y :: d, _, _, _, h, _ => by cases h
  | x :: c, [], _, _, _, h, _ => by cases h
  | x :: c, y :: d, [], _, _, _, h => h.elim
  | x :: c, y :: d, z :: s, hc, hd, hl, hs => by
    obtain ⟨h1, h2, h3⟩ := hs
    obtain ⟨i1, i2⟩ := scp_most c d s (fun q hq => hc q (List.mem_cons_of_mem _ hq)) (fun q hq => hd q (List.mem_cons_of_mem _ hq)) (by simpa using hl) h3
    simp only [scp, List.headD_cons, List.tail_cons]
    have hx := hc x (by simp)
    have hy := hd y (by simp)
    unfold sgS
    rcases hx with rfl | rfl <;> rcases hy with rfl | rfl
    · refine ⟨by simp; omega, fun h => ?_⟩
      rw [i2 (by simpa using h)]
    · have := h2 (by decide)
      refine ⟨by simp; omega, fun h => by simp at h; omega⟩
    · have := h1 rfl
      refine ⟨by simp; omega, fun h => by simp at h; omega⟩
    · refine ⟨by simp; omega, fun h => ?_⟩
      rw [i2 (by simpa using h)]
theorem thr_inj_f : ∀ q : Fin 64, thr ((q.1 : Nat) : Int) ≠ thr ((q.1 + 64 : Nat) : Int) := by decide +kernel
theorem encF_inj : ∀ (l k : List Int) (r : Nat), r < 128 → Bits l → Bits k → l.length = k.length → encF r l = encF r k → l = k
  | [], [], _, _, _, _, _, _ => rfl
  | [], y :: k, _, _, _, _, h, _ => by cases h
  | x :: l, [], _, _, _, _, h, _ => by cases h
  | x :: l, y :: k, r, hr, hl, hk, hlen, h => by
    have hx := hl x (by simp)
    have hy := hk y (by simp)
    simp only [encF] at h
    obtain ⟨h1, h2⟩ := List.append_inj h rfl
    have e : ∀ z : Int, z = 0 ∨ z = 1 → ((r : Int) / 2 + 64 * z) = ((r / 2 + 64 * z.toNat : Nat) : Int) := by
      intro z hz
      rcases hz with rfl | rfl <;> simp
    have hxy : x = y := by
      have h0 := thr_inj_f ⟨r / 2, by omega⟩
      rw [e x hx, e y hy] at h1
      rcases hx with rfl | rfl <;> rcases hy with rfl | rfl
      · rfl
      · exact (h0 (by simpa using h1)).elim
      · exact (h0 (by simpa using h1.symm)).elim
      · rfl
    subst hxy
    rw [e x hx] at h2
    rw [encF_inj l k (r / 2 + 64 * x.toNat) (by rcases hx with rfl | rfl <;> simp <;> omega) (fun q hq => hl q (List.mem_cons_of_mem _ hq)) (fun q hq => hk q (List.mem_cons_of_mem _ hq)) (by simpa using hlen) h2]
theorem back_best {b loud : List Int} (hb : Bits b) (hl : b.length ≤ 400) : decErr (hrd (encL b) loud) = 0 ∧ decL (hrd (encL b) loud) = b ∧ decV (hrd (encL b) loud) = scoreOf b (hrd (encL b) loud) ∧ scoreErr b (hrd (encL b) loud) = 0 := by
  have hs := hrd_softs (encL b) loud
  have hln : (hrd (encL b) loud).length = 3 * b.length + 18 := by rw [hrd_length, encL_length]
  have hsg := hrd_sgn (encL b) loud
  generalize hrd (encL b) loud = s at *
  have he : decErr s = 0 := by
    unfold decErr
    rw [if_pos ⟨softB_spec.2 hs, by omega, by omega, by omega⟩]
  have hN : decN s = b.length := by unfold decN; omega
  obtain ⟨e1, e2⟩ := scoreOf_GL hs hb hl hln
  have hB := dec_best he
  rw [hN] at hB
  have key : ∀ o : List Int, Bits o → o.length = b.length → GL s 0 0 (o ++ zs 6) = scp (encL o) s := by
    intro o ho hol
    exact (enc_GL s (o ++ zs 6) 0 0 (ho.app (zs_bits 6))).symm
  have hb2 : IsBest s b.length b.length 0 (scoreOf b s) b := by
    refine ⟨hb, rfl, by rw [Nat.sub_self]; exact e2.symm, fun o ho hol => ?_⟩
    rw [Nat.sub_self, e2, key o ho hol, key b hb rfl]
    have hlen : (encL b).length = (encL o).length := by rw [encL_length, encL_length, hol]
    obtain ⟨m1, m2⟩ := scp_most (encL b) (encL o) s (encF_bits _ _) (encF_bits _ _) hlen hsg
    by_cases hq : scp (encL o) s = scp (encL b) s
    · right
      refine ⟨hq, ?_⟩
      have h3 := m2 hq
      have h4 := encF_inj (o ++ zs 6) (b ++ zs 6) 0 (by decide) (ho.app (zs_bits 6)) (hb.app (zs_bits 6)) (by simp [hol]) h3
      have h5 := (List.append_inj h4 hol).1
      rw [h5]; exact ahead_irr b
    · left; omega
  obtain ⟨u1, u2⟩ := best_unique hB hb2
  exact ⟨he, u2, u1, e1⟩
end Go.Spec
namespace Go.Spec
open Go Go.Lift
def X_keep_heard_0_0 (r0 : (List Int)) (K : AExit → St → Prop) : Prop := K (.exit 0) ⟨un 6 ++ (.s (.sl 0) :: (un 36)), [(0, .row (.int .i64) r0)], 1⟩
def X_keep_ConvBest_0_0 (t0 : (List Int)) (t6 : Int) (r0 : (List Int)) (r1 : (List Int)) (K : AExit → St → Prop) : Prop := K (.exit 0) ⟨.s (.val (.ro (.int .i64)) t0) :: (un 4 ++ (.s (.sl 0) :: (.s (.val (.int .i64) t6) :: (un 3 ++ (.s (.sl 1) :: (un 69)))))), [(0, .row (.int .u8) r0), (1, .row (.int .u8) r1)], 2⟩
end Go.Spec
/- What the functions answer: no way scores more; what is coded is decoded. -/
namespace Go.Spec
open Go Go.Lift
def S_keep_heard : Summ := { par := [.v (.ro (.int .u8)), .v (.ro (.int .i64))], res := [.row (.int .i64), .v .bool], esc := false, pre := fun x => (List.length x.1 : Int) ≤ 1000000 ∧ (List.length x.2.1 : Int) ≤ big, fn := fun x => ((hrd x.1 x.2.1, true, ()), ((), (), ())) }
def p_keep_heard_0 (t0 t1 : List Int) (t7 : Int) (r0 : List Int) : Prop := (t0.length : Int) ≤ 1000000 ∧ (t1.length : Int) ≤ big ∧ 0 ≤ t7 ∧ t7 ≤ t0.length ∧ (r0.length : Int) = t7
def m_keep_heard_0 (t0 _t1 : List Int) (t7 : Int) (_r0 : List Int) : Nat := (t0.length - t7).toNat
def o_keep_heard_0 (t0 t1 : List Int) (t7 : Int) (r0 : List Int) (K : AExit → St → Prop) : Prop := X_keep_heard_0_0 (r0 ++ seg (fun i => sgS (t0.getD i 0) (lvF t1 i)) t7.toNat t0.length) K
def S_keep_ConvBest : Summ := { par := [.v (.ro (.int .i64)), .v (.ro (.int .u8))], res := [.v .bool], esc := false, pre := fun x => (List.length x.1 : Int) ≤ big ∧ (List.length x.2.1 : Int) ≤ big ∧ ∀ y ∈ x.2.1, 0 ≤ y, fn := fun _ => ((true, ()), ((), (), ())) }
def p_keep_ConvBest_0 (t0 : List Int) (t6 : Int) (r0 r1 : List Int) : Prop := decErr t0 = 0 ∧ t6 = decV t0 ∧ r0 = decL t0 ∧ Bits r1 ∧ r1.length ≤ r0.length
def m_keep_ConvBest_0 (_t0 : List Int) (_t6 : Int) (r0 r1 : List Int) : Nat := r0.length - r1.length
def o_keep_ConvBest_0 (t0 : List Int) (t6 : Int) (r0 r1 : List Int) (K : AExit → St → Prop) : Prop := X_keep_ConvBest_0_0 t0 t6 r0 (r1 ++ zs (r0.length - r1.length)) K
def S_keep_ConvBack : Summ := { par := [.v (.ro (.int .u8)), .v (.ro (.int .i64))], res := [.v .bool], esc := false, pre := fun x => (List.length x.1 : Int) ≤ big ∧ (∀ y ∈ x.1, 0 ≤ y) ∧ (List.length x.2.1 : Int) ≤ big, fn := fun _ => ((true, ()), ((), (), ())) }
end Go.Spec
