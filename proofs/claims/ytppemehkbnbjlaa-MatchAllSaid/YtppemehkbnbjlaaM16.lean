/- What all rounds add: sums, their size, their signs. -/
import Derived.Test.YtppemehkbnbjlaaM15
import Derived.Test.YtppemehkbnbjlaaS7
set_option linter.unusedVariables false
set_option linter.unusedSimpArgs false
namespace Go.Spec
open Go Go.Lift
theorem and_small (x : Int) (m : Nat) (hm : m < 4611686018427387904) : 0 ≤ bits BinOp.and .i64 x (m : Int) ∧ bits BinOp.and .i64 x (m : Int) ≤ m := by
  have h : bits BinOp.and .i64 x (m : Int) = IntKind.wrap .i64 ((BitVec.ofInt 64 x &&& BitVec.ofInt 64 (m : Int)).toNat : Int) := rfl
  have h2 : (BitVec.ofInt 64 x &&& BitVec.ofInt 64 (m : Int)).toNat ≤ m := by
    rw [BitVec.toNat_and]
    refine Nat.le_trans Nat.and_le_right ?_
    rw [BitVec.ofInt_natCast, BitVec.toNat_ofNat]
    exact Nat.mod_le _ _
  rw [h, IntWalk.i64_in _ (by omega)]
  omega
def goodL (b : List Int) (most : Nat) : List Int := (b.take most).map (· % 2)
def sgS (c x : Int) : Int := if c = 1 then -x else x
def lvF (loud : List Int) (i : Nat) : Int :=
  if loud = [] then 1 else if loud.getD (i % loud.length) 0 < 1 ∨ loud.getD (i % loud.length) 0 > 100000 then 7 else loud.getD (i % loud.length) 0
def hrd (c loud : List Int) : List Int := seg (fun i => sgS (c.getD i 0) (lvF loud i)) 0 c.length
def smallL (l : List Int) : List Int := l.map fun x => IntKind.wrap .i64 (1 + bits BinOp.and .i64 x 3)
theorem small_range {l : List Int} : ∀ x ∈ smallL l, 1 ≤ x ∧ x ≤ 4 := by
  intro x hx
  obtain ⟨y, _, rfl⟩ := List.mem_map.1 hx
  have := and_small y 3 (by decide)
  have e : ((3 : Nat) : Int) = 3 := rfl
  rw [e] at this
  rw [IntWalk.i64_in _ (by omega)]
  omega
theorem lv_small (l : List Int) (i : Nat) : 1 ≤ lvF (smallL l) i ∧ lvF (smallL l) i ≤ 4 := by
  unfold lvF
  split
  · decide
  · rename_i h
    have hl : (smallL l).length ≠ 0 := fun e => h (List.length_eq_zero_iff.1 e)
    have hi : i % (smallL l).length < (smallL l).length := Nat.mod_lt _ (by omega)
    have := small_range _ (show (smallL l).getD (i % (smallL l).length) 0 ∈ smallL l by
      rw [List.getD_eq_getElem?_getD, List.getElem?_eq_getElem hi]; exact List.getElem_mem hi)
    rw [if_neg (by omega)]
    exact this
theorem hrd_at {c loud : List Int} {i : Nat} (h : i < c.length) : (hrd c loud).getD i 0 = sgS (c.getD i 0) (lvF loud i) := by
  unfold hrd seg
  rw [List.getD_eq_getElem?_getD, List.getElem?_map, List.getElem?_range (by omega)]
  simp
theorem hrd_length (c loud : List Int) : (hrd c loud).length = c.length := by unfold hrd seg; simp
theorem hrd_small {c l : List Int} : ∀ x ∈ hrd c (smallL l), -4 ≤ x ∧ x ≤ 4 := by
  intro x hx
  unfold hrd seg at hx
  obtain ⟨i, _, rfl⟩ := List.mem_map.1 hx
  have := lv_small l (0 + i)
  show -4 ≤ sgS (c.getD (0 + i) 0) (lvF (smallL l) (0 + i)) ∧ sgS (c.getD (0 + i) 0) (lvF (smallL l) (0 + i)) ≤ 4
  unfold sgS
  split <;> omega
theorem cAt_sign {q : Int} {P : Int → Prop} (h0 : P 0) (ha : ∀ a b, P a → P b → P (a + b)) : ∀ ps ss : List Int, (∀ i, i < ps.length → i < ss.length → ps.getD i 0 = q → P (ss.getD i 0)) → P (cAt ps ss q)
  | [], ss, _ => by simpa [cAt] using h0
  | _ :: _, [], _ => by simpa [cAt] using h0
  | p :: ps, s :: ss, h => by
    have ih := cAt_sign h0 ha ps ss fun i h1 h2 h3 => by
      have := h (i + 1) (by simp; omega) (by simp; omega) (by simpa using h3)
      simpa using this
    simp only [cAt]
    refine ha _ _ ?_ ih
    split
    · rename_i e
      exact h 0 (by simp) (by simp) (by simpa using e)
    · exact h0
theorem addP_at : ∀ (nx ps ss : List Int) (B : Int), (∀ p ∈ ps, 0 ≤ p ∧ p < nx.length) → (∀ s ∈ ss, -4 ≤ s ∧ s ≤ 4) → (∀ q : Nat, -B ≤ nx.getD q 0 ∧ nx.getD q 0 ≤ B) → B + 4 * ss.length ≤ 1000000000 →
    ∀ q : Nat, q < nx.length → (addP nx ps ss).getD q 0 = nx.getD q 0 + cAt ps ss q
  | nx, [], ss, B, _, _, _, _, q, hq => by simp [addP, cAt]
  | nx, _ :: _, [], B, _, _, _, _, q, hq => by simp [addP, cAt]
  | nx, p :: ps, s :: ss, B, hp, hs, hB, hb, q, hq => by
    have hs0 := hs s (List.mem_cons_self ..)
    have hp0 := hp p (List.mem_cons_self ..)
    have hBp := hB p.toNat
    rw [List.length_cons] at hb
    have hw : IntKind.wrap .i64 (nx.getD p.toNat 0 + s) = nx.getD p.toNat 0 + s := IntWalk.i64_in _ (by omega)
    have hset : ∀ k : Nat, (nx.set p.toNat (nx.getD p.toNat 0 + s)).getD k 0 = nx.getD k 0 + (if p = (k : Int) then s else 0) := fun k => by
      by_cases hk : p = (k : Int)
      · have : p.toNat = k := by omega
        rw [if_pos hk, this, List.getD_eq_getElem?_getD, List.getElem?_set_self (by omega)]; rfl
      · rw [if_neg hk, List.getD_eq_getElem?_getD, List.getElem?_set_ne (by omega), ← List.getD_eq_getElem?_getD, Int.add_zero]
    simp only [addP, cAt]
    rw [hw, addP_at _ ps ss (B + 4) (fun x hx => by rw [List.length_set]; exact hp x (List.mem_cons_of_mem _ hx)) (fun x hx => hs x (List.mem_cons_of_mem _ hx)) (fun k => ?_) (by omega) q (by rw [List.length_set]; exact hq), hset]
    · omega
    · rw [hset]
      have := hB k
      split <;> omega
/-! the rounds -/
def cntAt (counts : List Int) (j : Nat) : Int := bits BinOp.and .i64 (counts.getD j 0) 1023
def roundS (coded loud counts : List Int) (j : Nat) : List Int := hrd (pickOf coded (Int.tmod j 4) (cntAt counts j)) (smallL loud)
def con (coded loud counts : List Int) (j : Nat) (q : Int) : Int := cAt (pickedL coded.length (beginOf coded.length (Int.tmod j 4)).1 (roundS coded loud counts j).length) (roundS coded loud counts j) q
def tot (coded loud counts : List Int) : Nat → Int → Int
  | 0, _ => 0
  | m + 1, q => tot coded loud counts m q + con coded loud counts m q
def Coded (c : List Int) : Prop := 1 ≤ c.length ∧ c.length ≤ 600 ∧ ∀ y ∈ c, y = 0 ∨ y = 1
theorem bits_zero {c : List Int} (h : Coded c) : bitsErr c = 0 := by
  unfold bitsErr
  have h1 : c.any badBit = false := by
    rw [List.any_eq_false]
    intro x hx
    rcases h.2.2 x hx with rfl | rfl <;> simp [badBit]
  rw [h1]
  have := h.2.1
  simp; omega
theorem cnt_range (counts : List Int) (j : Nat) : 0 ≤ cntAt counts j ∧ cntAt counts j ≤ 1023 := and_small _ 1023 (by decide)
theorem ver (j : Nat) : 0 ≤ Int.tmod (j : Int) 4 ∧ Int.tmod (j : Int) 4 ≤ 3 := by
  rw [Int.tmod_eq_emod_of_nonneg (by omega)]; omega
theorem begin_round {c : List Int} (h : Coded c) (j : Nat) : (beginOf c.length (Int.tmod j 4)).2 = 0 ∧ 0 ≤ (beginOf c.length (Int.tmod j 4)).1 := by
  have h1 := ver j
  unfold beginOf
  have h2 := h.1
  have h3 := h.2.1
  rw [if_pos (by omega)]
  refine ⟨rfl, ?_⟩
  show 0 ≤ Int.tdiv (Int.tmod (j : Int) 4 * (c.length : Int)) 4
  exact Int.tdiv_nonneg (Int.mul_nonneg h1.1 (by omega)) (by decide)
theorem pick_round {c : List Int} (h : Coded c) (counts : List Int) (j : Nat) : pickErr c (Int.tmod j 4) (cntAt counts j) = 0 ∧ pickOf c (Int.tmod j 4) (cntAt counts j) = pickL c (beginOf c.length (Int.tmod j 4)).1 (cntAt counts j).toNat := by
  have hc := cnt_range counts j
  have hb := begin_round h j
  have e : pickErr c (Int.tmod j 4) (cntAt counts j) = 0 := by
    unfold pickErr
    rw [if_neg (by simpa using bits_zero h), if_neg (by rw [hb.1]; omega)]
  exact ⟨e, by unfold pickOf; rw [if_pos e]⟩
theorem round_length {c : List Int} (h : Coded c) (loud counts : List Int) (j : Nat) : (roundS c loud counts j).length = (cntAt counts j).toNat := by
  unfold roundS
  rw [hrd_length, (pick_round h counts j).2]
  simp [pickL, pickedL]
theorem con_bound {c : List Int} (h : Coded c) (loud counts : List Int) (j : Nat) (q : Int) : -4092 ≤ con c loud counts j q ∧ con c loud counts j q ≤ 4092 := by
  have h1 := cAt_bound (pickedL c.length (beginOf c.length (Int.tmod j 4)).1 (roundS c loud counts j).length) (roundS c loud counts j) q 4 (by decide) hrd_small
  have h2 := round_length h loud counts j
  have h3 := cnt_range counts j
  unfold con
  omega
theorem con_sign {c : List Int} (h : Coded c) (loud counts : List Int) (j : Nat) (q : Nat) (hq : q < c.length) : (c.getD q 0 = 1 → con c loud counts j q ≤ 0) ∧ (c.getD q 0 = 0 → 0 ≤ con c loud counts j q) := by
  have key : ∀ i, i < (pickedL c.length (beginOf c.length (Int.tmod j 4)).1 (roundS c loud counts j).length).length → (pickedL c.length (beginOf c.length (Int.tmod j 4)).1 (roundS c loud counts j).length).getD i 0 = (q : Int) →
      (roundS c loud counts j).getD i 0 = sgS (c.getD q 0) (lvF (smallL loud) i) := fun i hi he => by
    rw [picked_length] at hi
    have hl := round_length h loud counts j
    have hpl : i < (pickL c (beginOf c.length (Int.tmod j 4)).1 (cntAt counts j).toNat).length := by simp [pickL, pickedL]; omega
    rw [hl] at he
    unfold roundS
    rw [(pick_round h counts j).2, hrd_at hpl]
    congr 1
    unfold pickL
    rw [List.getD_eq_getElem?_getD, List.getElem?_map]
    have hi2 : i < (pickedL (c.length : Int) (beginOf (c.length : Int) (Int.tmod j 4)).1 (cntAt counts j).toNat).length := by rw [picked_length]; omega
    rw [List.getD_eq_getElem?_getD, List.getElem?_eq_getElem hi2] at he
    rw [List.getElem?_eq_getElem hi2]
    simp only [Option.getD_some, Option.map_some] at he ⊢
    rw [he]; rfl
  refine ⟨fun h1 => ?_, fun h0 => ?_⟩
  · refine cAt_sign (P := fun x => x ≤ 0) (Int.le_refl _) (fun a b h1 h2 => by omega) _ _ fun i hi _ he => ?_
    have := lv_small loud i
    rw [key i hi he, h1]; unfold sgS; rw [if_pos rfl]; omega
  · refine cAt_sign (P := fun x => 0 ≤ x) (Int.le_refl _) (fun a b h1 h2 => by omega) _ _ fun i hi _ he => ?_
    have := lv_small loud i
    rw [key i hi he, h0]; unfold sgS; rw [if_neg (by decide)]; omega
theorem tot_bound {c : List Int} (h : Coded c) (loud counts : List Int) (q : Int) : ∀ m : Nat, -(4092 * m) ≤ tot c loud counts m q ∧ tot c loud counts m q ≤ 4092 * m
  | 0 => by simp [tot]
  | m + 1 => by
    have ih := tot_bound h loud counts q m
    have := con_bound h loud counts m q
    simp only [tot]; omega
theorem tot_sign {c : List Int} (h : Coded c) (loud counts : List Int) (q : Nat) (hq : q < c.length) : ∀ m : Nat, (c.getD q 0 = 1 → tot c loud counts m q ≤ 0) ∧ (c.getD q 0 = 0 → 0 ≤ tot c loud counts m q)
  | 0 => by simp [tot]
  | m + 1 => by
    have ih := tot_sign h loud counts q hq m
    have := con_sign h loud counts m q hq
    simp only [tot]
    exact ⟨fun e => by have := ih.1 e; have := this; omega, fun e => by have := ih.2 e; omega⟩
/-- One round is added: nothing grows too great, each place grows by the round's share. -/
theorem add_round {c : List Int} (h : Coded c) (loud counts : List Int) (j : Nat) {a : List Int} (ha : a.length = c.length) (hB : ∀ q : Nat, q < a.length → -90000 ≤ a.getD q 0 ∧ a.getD q 0 ≤ 90000) :
    addErr a (roundS c loud counts j) (Int.tmod j 4) = 0 ∧ (addOf a (roundS c loud counts j) (Int.tmod j 4)).length = c.length ∧ ∀ q : Nat, q < c.length → (addOf a (roundS c loud counts j) (Int.tmod j 4)).getD q 0 = a.getD q 0 + con c loud counts j q := by
  have hl := round_length h loud counts j
  have hcn := cnt_range counts j
  have hb := begin_round h j
  have hsmall : ∀ s ∈ roundS c loud counts j, -4 ≤ s ∧ s ≤ 4 := hrd_small
  have hsoft : softB (roundS c loud counts j) = true := by
    unfold softB
    rw [List.all_eq_true]
    intro x hx
    have := hsmall x hx
    simp; omega
  have hif : ¬ ((beginOf a.length (Int.tmod j 4)).2 ≠ 0 ∨ softB (roundS c loud counts j) = false ∨ 4096 < (roundS c loud counts j).length) := by
    rw [ha, hb.1, hsoft]; simp; omega
  have hlen : (addL a (roundS c loud counts j) (Int.tmod j 4)).length = c.length := by
    have : ∀ nx ps ss : List Int, (addP nx ps ss).length = nx.length := fun nx ps => by
      induction ps generalizing nx with
      | nil => intro ss; simp [addP]
      | cons p ps ih => intro ss; cases ss with
        | nil => simp [addP]
        | cons s ss => simp [addP, ih]
    unfold addL
    rw [this, ha]
  have hat : ∀ q : Nat, q < c.length → (addL a (roundS c loud counts j) (Int.tmod j 4)).getD q 0 = a.getD q 0 + con c loud counts j q := fun q hq => by
    unfold addL con
    rw [ha]
    refine addP_at a _ _ 90000 (fun p hp => ?_) hsmall (fun k => ?_) (by omega) q (by omega)
    · obtain ⟨i, hi, rfl⟩ := List.getElem_of_mem hp
      rw [picked_length] at hi
      have h1 := h.1
      have := picked_range (n := (c.length : Int)) (a := (beginOf c.length (Int.tmod j 4)).1) (by omega) hi
      rw [List.getD_eq_getElem?_getD, List.getElem?_eq_getElem (by rw [picked_length]; exact hi), Option.getD_some] at this
      rw [ha]; exact this
    · by_cases hk : k < a.length
      · exact hB k hk
      · rw [List.getD_eq_getElem?_getD, List.getElem?_eq_none (by omega)]; simp
  have hs2 : softB (addL a (roundS c loud counts j) (Int.tmod j 4)) = true := by
    unfold softB
    rw [List.all_eq_true]
    intro x hx
    obtain ⟨i, hi, rfl⟩ := List.getElem_of_mem hx
    have h1 := hat i (by omega)
    rw [List.getD_eq_getElem?_getD, List.getElem?_eq_getElem hi, Option.getD_some] at h1
    have h2 := con_bound h loud counts j (i : Int)
    have h3 := hB i (by omega)
    rw [h1, Bool.and_eq_true, decide_eq_true_eq, decide_eq_true_eq]; omega
  have e : addErr a (roundS c loud counts j) (Int.tmod j 4) = 0 := by unfold addErr; rw [if_neg hif, if_pos hs2]
  have f : addOf a (roundS c loud counts j) (Int.tmod j 4) = addL a (roundS c loud counts j) (Int.tmod j 4) := by unfold addOf; rw [if_pos e]
  rw [f]
  exact ⟨e, hlen, hat⟩
end Go.Spec
