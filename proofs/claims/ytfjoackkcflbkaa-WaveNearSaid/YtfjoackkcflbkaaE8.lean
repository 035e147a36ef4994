/- Lines for the functions of this seat; merged from texts of their own. -/
import Derived.Test.YtfjoackkcflbkaaP8
import Derived.Test.YtfjoackkcflbkaaLF
import Derived.Test.YtfjoackkcflbkaaE3
set_option linter.unusedVariables false
set_option linter.unusedSimpArgs false
/- Plain facts: bits as points. -/
namespace Go.Spec
open Go Go.Lift
abbrev Pt := Int × Int × Unit
def sgnB (b : List Int) (i : Nat) : Int := 1 - 2 * b.getD i 0
def sideL (b : List Int) (a : Nat) : Int :=
  if b.length = 2 then sgnB b a else if b.length = 4 then sgnB b a * (2 - sgnB b (a + 2)) else sgnB b a * (4 - sgnB b (a + 2) * (2 - sgnB b (a + 4)))
def pointL (b : List Int) : Pt := (sideL b 0, sideL b 1, ())
def far (a b : Pt) : Int := (a.1 - b.1) * (a.1 - b.1) + (a.2.1 - b.2.1) * (a.2.1 - b.2.1)
def orderB (o : Int) : Bool := (o == 2 || o == 4) || o == 6
def okPt (p : Pt) : Bool := decide (-1000 ≤ p.1) && decide (p.1 ≤ 1000) && decide (-1000 ≤ p.2.1) && decide (p.2.1 ≤ 1000)
/-- the points of the chunks of k bits -/
def sendF (k : Nat) : Nat → List Int → List Pt
  | 0, _ => []
  | f + 1, b => pointL (b.take k) :: sendF k f (b.drop k)
def sendErr (b : List Int) (o : Int) : Int := if bitsErr b ≠ 0 then bitsErr b else if orderB o = true ∧ (b.length : Int) % o = 0 then 0 else 1
def sendL (b : List Int) (o : Int) : List Pt := if sendErr b o = 0 then sendF o.toNat (b.length / o.toNat) b else []
def hearB (l : List Pt) (o : Int) : Bool := orderB o && decide ((l.length : Int) * o ≤ 4096) && l.all okPt
/-- the least distance over the first n numbers of which place i is v -/
def leastN (p : Pt) (k i : Nat) (v : Int) : Nat → Int
  | 0 => 9223372036854775807
  | n + 1 => if (outS k n).getD i 0 = v then lesser false (leastN p k i v n) (far p (pointL (outS k n))) else leastN p k i v n
def heard1 (k : Nat) (p : Pt) : List Int := seg (fun i => leastN p k i 1 (2 ^ k) - leastN p k i 0 (2 ^ k)) 0 k
def heardL (l : List Pt) (k : Nat) : List Int := (l.map (heard1 k)).flatten
/-- the first of the nearest -/
def bestN (p : Pt) (k : Nat) : Nat → Int × Nat
  | 0 => (9223372036854775807, 0)
  | n + 1 => if far p (pointL (outS k n)) < (bestN p k n).1 then (far p (pointL (outS k n)), n) else bestN p k n
def near1 (k : Nat) (p : Pt) : List Int := outS k (bestN p k (2 ^ k)).2
def nearL (l : List Pt) (k : Nat) : List Int := (l.map (near1 k)).flatten
def maxI : Int := 9223372036854775807
def lst (p : Pt) (k n i : Nat) : List Int := [leastN p k i 0 n, leastN p k i 1 n]
def goodO (o : Int) : Prop := o = 2 ∨ o = 4 ∨ o = 6
def inn (b : List Int) (a m : Nat) : Nat → Int
  | 0 => 0
  | j + 1 => sgnB b (2 * (m - 1 - j) + a) * (if j = 0 then 1 else 2 * (j : Int) - inn b a m j)
def listsC (k : Nat) : List (List Int) := seg (outS k) 0 (2 ^ k)
def pointsC (k : Nat) : List Pt := (listsC k).map pointL
def two (l : List Int) : List (List Int) := [l ++ [0], l ++ [1]]
/-- the points of those lists that are c -/
def hits (c : List Int) (l : List (List Int)) : List Pt := l.flatMap fun x => if x = c then [pointL x] else []
def heardAt (p : Pt) (k i : Nat) : Int := leastN p k i 1 (2 ^ k) - leastN p k i 0 (2 ^ k)
/-- the least so far, -1 if there is none -/
def refL (p : Pt) (k i : Nat) (v : Int) : Nat → Int
  | 0 => -1
  | n + 1 => if (outS k n).getD i 0 = v ∧ (refL p k i v n < 0 ∨ far p (pointL (outS k n)) < refL p k i v n) then far p (pointL (outS k n)) else refL p k i v n
theorem outS_two (k n : Nat) : outS (k + 1) (2 * n) = outS k n ++ [0] ∧ outS (k + 1) (2 * n + 1) = outS k n ++ [1] := by
  have key : ∀ x, x < 2 → outS (k + 1) (2 * n + x) = outS k n ++ [((x : Nat) : Int)] := by
    intro x hx
    unfold outS
    rw [seg_snoc]
    congr 1
    · refine seg_map fun i _ hi => ?_
      have e : k + 1 - 1 - i = (k - 1 - i) + 1 := by omega
      rw [e, Nat.pow_succ, Nat.mul_comm (2 ^ _) 2, ← Nat.div_div_eq_div_mul, show (2 * n + x) / 2 = n by omega]
    · rw [show k + 1 - 1 - k = 0 by omega]
      simp only [Nat.pow_zero, Nat.div_one]
      rw [show (2 * n + x) % 2 = x by omega]
  exact ⟨key 0 (by omega), key 1 (by omega)⟩
theorem seg_two {α : Type} (f : Nat → α) (n : Nat) : seg f 0 (2 * n) = (List.range n).flatMap fun i => [f (2 * i), f (2 * i + 1)] := by
  induction n with
  | zero => rfl
  | succ n ih =>
    rw [show 2 * (n + 1) = (2 * n + 1) + 1 by omega, seg_snoc, seg_snoc, ih, List.range_succ, List.flatMap_append]
    simp
theorem listsC_eq (k : Nat) : listsC k = (List.range (2 ^ k)).map (outS k) := by
  unfold listsC seg
  rw [Nat.sub_zero]
  exact List.map_congr_left fun i _ => by rw [Nat.zero_add]
theorem listsC_zero : listsC 0 = [[]] := rfl
theorem listsC_succ (k : Nat) : listsC (k + 1) = (listsC k).flatMap two := by
  rw [listsC_eq k, List.flatMap_map]
  unfold listsC
  rw [Nat.pow_succ, Nat.mul_comm, seg_two]
  congr 1
  funext i
  rw [(outS_two k i).1, (outS_two k i).2]; rfl
theorem listsC_length (k : Nat) : (listsC k).length = 2 ^ k := by unfold listsC; rw [seg_length, Nat.sub_zero]
theorem listsC_mem {k : Nat} {l : List Int} (h : l ∈ listsC k) : Bits l ∧ l.length = k := by
  rw [listsC_eq, List.mem_map] at h
  obtain ⟨n, _, rfl⟩ := h
  exact ⟨outS_bits k n, outS_length k n⟩
theorem listsC_getD {k n : Nat} (h : n < 2 ^ k) : (listsC k).getD n [] = outS k n := by
  rw [listsC_eq, List.getD_eq_getElem?_getD, List.getElem?_map, List.getElem?_range h]; rfl
theorem pointsC_getD {k n : Nat} (h : n < 2 ^ k) : (pointsC k).getD n (0, 0, ()) = pointL (outS k n) := by
  unfold pointsC
  rw [listsC_eq, List.getD_eq_getElem?_getD, List.getElem?_map, List.getElem?_map, List.getElem?_range h]; rfl
theorem pointsC_length (k : Nat) : (pointsC k).length = 2 ^ k := by unfold pointsC; rw [List.length_map, listsC_length]
theorem only_one {α : Type} : ∀ (k : Nat) (f : List Int → α) (c : List Int), Bits c → c.length = k → ((listsC k).flatMap fun x => if x = c then [f x] else []) = [f c]
  | 0, f, c, _, hl => by
    have : c = [] := List.length_eq_zero_iff.1 hl
    subst this; rfl
  | k + 1, f, c, hb, hl => by
    have hne : c ≠ [] := fun h => by rw [h] at hl; cases hl
    obtain ⟨c', x, hc⟩ : ∃ c' x, c = c' ++ [x] := ⟨c.dropLast, c.getLast hne, (List.dropLast_concat_getLast hne).symm⟩
    subst hc
    have ih := only_one k (fun l => f (l ++ [x])) c' (fun y hy => hb y (List.mem_append_left _ hy)) (by simpa using hl)
    rw [listsC_succ, List.flatMap_assoc]
    rw [← ih]
    congr 1
    funext l
    have key : ∀ y : Int, (l ++ [y] = c' ++ [x]) ↔ (y = x ∧ l = c') := by
      intro y
      constructor
      · intro h
        have := List.append_inj' h rfl
        exact ⟨by simpa using this.2, this.1⟩
      · rintro ⟨rfl, rfl⟩; rfl
    simp only [two, List.flatMap_cons, List.flatMap_nil, List.append_nil, key]
    rcases hb x (by simp) with rfl | rfl
    · by_cases hlc : l = c' <;> simp [hlc]
    · by_cases hlc : l = c' <;> simp [hlc]
theorem hits_C {k : Nat} {c : List Int} (hb : Bits c) (hl : c.length = k) : hits c (listsC k) = [pointL c] := only_one k pointL c hb hl
theorem sgnB_cases {b : List Int} (h : Bits b) (i : Nat) : sgnB b i = 1 ∨ sgnB b i = -1 := by
  unfold sgnB; rcases h.getD i with h | h <;> rw [h] <;> simp
theorem sideL_bound {b : List Int} (h : Bits b) (a : Nat) : -7 ≤ sideL b a ∧ sideL b a ≤ 7 := by
  unfold sideL
  rcases sgnB_cases h a with h0 | h0 <;> rcases sgnB_cases h (a + 2) with h1 | h1 <;> rcases sgnB_cases h (a + 4) with h2 | h2 <;> rw [h0, h1, h2] <;> split <;> first | decide | (split <;> decide)
theorem okPt_iff {p : Pt} : okPt p = true ↔ -1000 ≤ p.1 ∧ p.1 ≤ 1000 ∧ -1000 ≤ p.2.1 ∧ p.2.1 ≤ 1000 := by
  simp only [okPt, Bool.and_eq_true, decide_eq_true_eq, and_assoc]
theorem okPt_pointL {b : List Int} (h : Bits b) : okPt (pointL b) = true := by
  have h0 := sideL_bound h 0
  have h1 := sideL_bound h 1
  exact okPt_iff.2 ⟨by show -1000 ≤ sideL b 0; omega, by show sideL b 0 ≤ 1000; omega, by show -1000 ≤ sideL b 1; omega, by show sideL b 1 ≤ 1000; omega⟩
theorem sq_bd {x : Int} (h1 : -2000 ≤ x) (h2 : x ≤ 2000) : 0 ≤ x * x ∧ x * x ≤ 4000000 := by
  rcases Int.le_total 0 x with h | h
  · exact ⟨Int.mul_nonneg h h, Int.mul_le_mul h2 h2 h (by decide)⟩
  · have : x * x = (-x) * (-x) := by rw [Int.neg_mul_neg]
    rw [this]
    have h3 : (-x) * (-x) ≤ 2000 * 2000 := Int.mul_le_mul (by omega) (by omega) (by omega) (by decide)
    exact ⟨Int.mul_nonneg (by omega) (by omega), h3⟩
theorem far_bd {a b : Pt} (ha : okPt a = true) (hb : okPt b = true) : 0 ≤ far a b ∧ far a b ≤ 8000000 := by
  obtain ⟨a1, a2, a3, a4⟩ := okPt_iff.1 ha
  obtain ⟨b1, b2, b3, b4⟩ := okPt_iff.1 hb
  have s1 := sq_bd (x := a.1 - b.1) (by omega) (by omega)
  have s2 := sq_bd (x := a.2.1 - b.2.1) (by omega) (by omega)
  unfold far
  omega
theorem far_C {p : Pt} (hp : okPt p = true) (k n : Nat) : 0 ≤ far p (pointL (outS k n)) ∧ far p (pointL (outS k n)) ≤ 8000000 := far_bd hp (okPt_pointL (outS_bits k n))
theorem lesser_f (a b : Int) : lesser false a b = if b < a then b else a := rfl
theorem leastN_bd {p : Pt} (hp : okPt p = true) (k i : Nat) (v : Int) : ∀ n, 0 ≤ leastN p k i v n ∧ leastN p k i v n ≤ maxI
  | 0 => by simp [leastN, maxI]
  | n + 1 => by
    have ih := leastN_bd hp k i v n
    have hf := far_C hp k n
    rw [leastN, lesser_f]
    unfold maxI at *
    split
    · split <;> omega
    · exact ih
theorem leastN_le {p : Pt} (hp : okPt p = true) (k i : Nat) (v : Int) {m : Nat} (hm : (outS k m).getD i 0 = v) : ∀ {n}, m < n → leastN p k i v n ≤ far p (pointL (outS k m))
  | 0, h => by omega
  | n + 1, h => by
    rw [leastN, lesser_f]
    by_cases hmn : m = n
    · subst hmn; rw [if_pos hm]; split <;> omega
    · have ih := leastN_le hp k i v hm (n := n) (by omega)
      split
      · split <;> omega
      · exact ih
theorem refL_least {p : Pt} (hp : okPt p = true) (k i : Nat) (v : Int) : ∀ n, (refL p k i v n = -1 ∧ leastN p k i v n = maxI ∧ ∀ m, m < n → (outS k m).getD i 0 ≠ v) ∨ (0 ≤ refL p k i v n ∧ refL p k i v n = leastN p k i v n ∧ refL p k i v n ≤ 8000000)
  | 0 => .inl ⟨rfl, rfl, fun m h => by omega⟩
  | n + 1 => by
    have hf := far_C hp k n
    rw [refL, leastN, lesser_f]
    by_cases hv : (outS k n).getD i 0 = v
    · right
      rw [if_pos hv]
      rcases refL_least hp k i v n with ⟨h1, h2, h3⟩ | ⟨h1, h2, h3⟩
      · rw [if_pos ⟨hv, .inl (by omega)⟩, h2, if_pos (by unfold maxI; omega)]
        exact ⟨hf.1, rfl, hf.2⟩
      · rw [← h2]
        by_cases hlt : far p (pointL (outS k n)) < refL p k i v n
        · rw [if_pos ⟨hv, .inr hlt⟩, if_pos hlt]; exact ⟨hf.1, rfl, hf.2⟩
        · rw [if_neg (by rintro ⟨_, h | h⟩ <;> omega), if_neg hlt]; exact ⟨h1, rfl, h3⟩
    · rw [if_neg (fun h => hv h.1), if_neg hv]
      rcases refL_least hp k i v n with ⟨h1, h2, h3⟩ | h
      · refine .inl ⟨h1, h2, fun m hm => ?_⟩
        by_cases hmn : m = n
        · subst hmn; exact hv
        · exact h3 m (by omega)
      · exact .inr h
theorem hit_fin : ∀ (o : Fin 3) (i : Fin 6), i.1 < 2 * (o.1 + 1) → (outS (2 * (o.1 + 1)) 0).getD i.1 0 = 0 ∧ (outS (2 * (o.1 + 1)) (2 ^ (2 * (o.1 + 1)) - 1)).getD i.1 0 = 1 := by decide +kernel
theorem goodO_fin {o : Int} (h : goodO o) : ∃ m : Fin 3, o.toNat = 2 * (m.1 + 1) ∧ o = ((2 * (m.1 + 1) : Nat) : Int) := by
  rcases h with rfl | rfl | rfl
  · exact ⟨0, rfl, rfl⟩
  · exact ⟨1, rfl, rfl⟩
  · exact ⟨2, rfl, rfl⟩
theorem hit {o : Int} (h : goodO o) {i : Nat} (hi : i < o.toNat) {v : Int} (hv : v = 0 ∨ v = 1) : ∃ n, n < 2 ^ o.toNat ∧ (outS o.toNat n).getD i 0 = v := by
  obtain ⟨m, e, _⟩ := goodO_fin h
  rw [e] at hi ⊢
  obtain ⟨h0, h1⟩ := hit_fin m ⟨i, by have := m.2; omega⟩ hi
  have hp : 0 < 2 ^ (2 * (m.1 + 1)) := Nat.two_pow_pos _
  rcases hv with rfl | rfl
  · exact ⟨0, hp, h0⟩
  · exact ⟨2 ^ (2 * (m.1 + 1)) - 1, by omega, h1⟩
theorem refL_all {p : Pt} (hp : okPt p = true) {o : Int} (h : goodO o) {i : Nat} (hi : i < o.toNat) {v : Int} (hv : v = 0 ∨ v = 1) :
    refL p o.toNat i v (2 ^ o.toNat) = leastN p o.toNat i v (2 ^ o.toNat) ∧ 0 ≤ leastN p o.toNat i v (2 ^ o.toNat) ∧ leastN p o.toNat i v (2 ^ o.toNat) ≤ 8000000 := by
  obtain ⟨n, h1, h2⟩ := hit h hi hv
  rcases refL_least hp o.toNat i v (2 ^ o.toNat) with ⟨_, _, h3⟩ | ⟨h3, h4, h5⟩
  · exact (h3 n h1 h2).elim
  · exact ⟨h4, by omega, by omega⟩
theorem bestN_lt {p : Pt} (k : Nat) : ∀ n, (bestN p k n).2 < max n 1
  | 0 => by simp [bestN]
  | n + 1 => by
    have := bestN_lt (p := p) k n
    rw [bestN]
    split
    · show n < _; omega
    · omega
theorem bestN_far {p : Pt} (hp : okPt p = true) (k : Nat) : ∀ n, 1 ≤ n → (bestN p k n).1 = far p (pointL (outS k (bestN p k n).2)) ∧ ∀ m, m < n → (bestN p k n).1 ≤ far p (pointL (outS k m))
  | n + 1, _ => by
    have hf := far_C hp k n
    rw [bestN]
    cases n with
    | zero =>
      rw [if_pos (by show far p (pointL (outS k 0)) < (9223372036854775807 : Int); omega)]
      exact ⟨rfl, fun m hm => by have : m = 0 := by omega
                                 subst this; exact Int.le_refl _⟩
    | succ n =>
      obtain ⟨h1, h2⟩ := bestN_far hp k (n + 1) (by omega)
      by_cases hlt : far p (pointL (outS k (n + 1))) < (bestN p k (n + 1)).1
      · rw [if_pos hlt]
        refine ⟨rfl, fun m hm => ?_⟩
        by_cases hmn : m = n + 1
        · subst hmn; exact Int.le_refl _
        · have := h2 m (by omega); show far p (pointL (outS k (n + 1))) ≤ _; omega
      · rw [if_neg hlt]
        refine ⟨h1, fun m hm => ?_⟩
        by_cases hmn : m = n + 1
        · subst hmn; omega
        · exact h2 m (by omega)
theorem heardL_cons {l : List Pt} {i k : Nat} (h : i < l.length) : heardL (l.drop i) k = heard1 k (l.getD i (0, 0, ())) ++ heardL (l.drop (i + 1)) k := by
  rw [drop_cons l i (0, 0, ()) h]; simp [heardL]
theorem nearL_cons {l : List Pt} {i k : Nat} (h : i < l.length) : nearL (l.drop i) k = near1 k (l.getD i (0, 0, ())) ++ nearL (l.drop (i + 1)) k := by
  rw [drop_cons l i (0, 0, ()) h]; simp [nearL]
theorem heardL_end {l : List Pt} {i k : Nat} (h : l.length ≤ i) : heardL (l.drop i) k = [] := by rw [List.drop_eq_nil_of_le h]; rfl
theorem nearL_end {l : List Pt} {i k : Nat} (h : l.length ≤ i) : nearL (l.drop i) k = [] := by rw [List.drop_eq_nil_of_le h]; rfl
theorem heard1_len (k : Nat) (p : Pt) : (heard1 k p).length = k := by unfold heard1; rw [seg_length]; omega
theorem near1_len (k : Nat) (p : Pt) : (near1 k p).length = k := outS_length _ _
theorem inn_side {b : List Int} {a m : Nat} (hl : b.length = 2 * m) (h1 : 1 ≤ m) (h2 : m ≤ 3) : inn b a m m = sideL b a := by
  unfold sideL
  have : m = 1 ∨ m = 2 ∨ m = 3 := by omega
  rcases this with rfl | rfl | rfl
  · rw [if_pos (by omega)]; simp [inn]
  · rw [if_neg (by omega), if_pos (by omega)]
    simp only [inn]
    simp [Nat.add_comm]
  · rw [if_neg (by omega), if_neg (by omega)]
    simp only [inn]
    simp [Nat.add_comm]
theorem inn_bd {b : List Int} (hb : Bits b) (a m : Nat) : ∀ j, j ≤ 3 → -7 ≤ inn b a m j ∧ inn b a m j ≤ 7 ∧ (j ≤ 2 → -3 ≤ inn b a m j ∧ inn b a m j ≤ 3) ∧ (j ≤ 1 → -1 ≤ inn b a m j ∧ inn b a m j ≤ 1)
  | 0, _ => by simp [inn]
  | j + 1, h => by
    obtain ⟨i1, i2, i3, i4⟩ := inn_bd hb a m j (by omega)
    have hj : j = 0 ∨ j = 1 ∨ j = 2 := by omega
    rw [inn]
    rcases sgnB_cases hb (2 * (m - 1 - j) + a) with hs | hs <;> rw [hs] <;> rcases hj with rfl | rfl | rfl
    · simp
    · have := i4 (by omega); simp; omega
    · have := i3 (by omega); simp; omega
    · simp
    · have := i4 (by omega); simp; omega
    · have := i3 (by omega); simp; omega
end Go.Spec
namespace Go.Spec
open Go Go.Lift
def X_wave_check_0_0 (t4 : Bool) (K : AExit → St → Prop) : Prop := K .ret ⟨un 4 ++ (.s (.val .bool t4) :: (un 37)), [], 0⟩
def X_wave_check_0_1  (K : AExit → St → Prop) : Prop := K (.exit 0) ⟨un 42, [], 0⟩
def X_wave_bitsOf_0_0 (r0 : (List Int)) (K : AExit → St → Prop) : Prop := K (.exit 0) ⟨un 5 ++ (.s (.sl 0) :: (un 21)), [(0, .row (.int .u8) r0)], 1⟩
def X_wave_Send_0_0 (r0 : (List (Int × (Int × Unit)))) (K : AExit → St → Prop) : Prop := K (.exit 0) ⟨un 7 ++ (.s (.sl 0) :: (un 34)), [(0, .row (.pair (.int .i64) (.pair (.int .i64) .unit)) r0)], 1⟩
def X_wave_Hear_0_0 (r0 : (List Int)) (K : AExit → St → Prop) : Prop := K (.exit 0) ⟨un 6 ++ (.s (.sl 0) :: (un 87)), [(0, .row (.int .i64) r0)], 1⟩
def X_wave_Hear_2_0 (t1 : Int) (t21 : (List (Int × (Int × Unit)))) (t22 : Int) (t23 : Int) (r0 : (List Int)) (r1 : (Int × (Int × Unit))) (r2 : (List (List Int))) (K : AExit → St → Prop) : Prop := K (.exit 2) ⟨un 1 ++ (.s (.val (.int .i64) t1) :: (un 4 ++ (.s (.sl 0) :: (un 1 ++ (.s (.addr 1 []) :: (.s (.sl 2) :: (un 11 ++ (.s (.val (.ro (.pair (.int .i64) (.pair (.int .i64) .unit))) t21) :: (.s (.val (.int .i64) t22) :: (.s (.val (.int .i64) t23) :: (un 70))))))))))), [(0, .row (.int .i64) r0), (1, .box (.pair (.int .i64) (.pair (.int .i64) .unit)) r1), (2, .row (.arr 2 (.int .i64)) r2)], 3⟩
def X_wave_Hear_4_0 (t1 : Int) (t21 : (List (Int × (Int × Unit)))) (t22 : Int) (t23 : Int) (r0 : (List Int)) (r1 : (List (List Int))) (K : AExit → St → Prop) : Prop := K (.exit 4) ⟨un 1 ++ (.s (.val (.int .i64) t1) :: (un 4 ++ (.s (.sl 0) :: (un 2 ++ (.s (.sl 1) :: (un 11 ++ (.s (.val (.ro (.pair (.int .i64) (.pair (.int .i64) .unit))) t21) :: (.s (.val (.int .i64) t22) :: (.s (.val (.int .i64) t23) :: (un 70)))))))))), [(0, .row (.int .i64) r0), (1, .row (.arr 2 (.int .i64)) r1)], 2⟩
def X_wave_Hear_6_0 (t1 : Int) (t21 : (List (Int × (Int × Unit)))) (t22 : Int) (t23 : Int) (t40 : Int) (t41 : Int) (r0 : (List Int)) (r1 : (Int × (Int × Unit))) (r2 : (List (List Int))) (K : AExit → St → Prop) : Prop := K (.exit 6) ⟨un 1 ++ (.s (.val (.int .i64) t1) :: (un 4 ++ (.s (.sl 0) :: (un 1 ++ (.s (.addr 1 []) :: (.s (.sl 2) :: (un 11 ++ (.s (.val (.ro (.pair (.int .i64) (.pair (.int .i64) .unit))) t21) :: (.s (.val (.int .i64) t22) :: (.s (.val (.int .i64) t23) :: (un 16 ++ (.s (.val (.int .i64) t40) :: (.s (.val (.int .i64) t41) :: (un 52)))))))))))))), [(0, .row (.int .i64) r0), (1, .box (.pair (.int .i64) (.pair (.int .i64) .unit)) r1), (2, .row (.arr 2 (.int .i64)) r2)], 3⟩
def X_wave_Hear_8_0 (t1 : Int) (t21 : (List (Int × (Int × Unit)))) (t22 : Int) (t23 : Int) (r0 : (List Int)) (K : AExit → St → Prop) : Prop := K (.exit 8) ⟨un 1 ++ (.s (.val (.int .i64) t1) :: (un 4 ++ (.s (.sl 0) :: (un 14 ++ (.s (.val (.ro (.pair (.int .i64) (.pair (.int .i64) .unit))) t21) :: (.s (.val (.int .i64) t22) :: (.s (.val (.int .i64) t23) :: (un 70)))))))), [(0, .row (.int .i64) r0)], 1⟩
def X_wave_Near_0_0 (r0 : (List Int)) (K : AExit → St → Prop) : Prop := K (.exit 0) ⟨un 6 ++ (.s (.sl 0) :: (un 40)), [(0, .row (.int .u8) r0)], 1⟩
def X_wave_Near_2_0 (t1 : Int) (t10 : Int) (t17 : (List (Int × (Int × Unit)))) (t18 : Int) (t19 : Int) (r0 : (List Int)) (K : AExit → St → Prop) : Prop := K (.exit 2) ⟨un 1 ++ (.s (.val (.int .i64) t1) :: (un 4 ++ (.s (.sl 0) :: (un 3 ++ (.s (.val (.int .i64) t10) :: (un 6 ++ (.s (.val (.ro (.pair (.int .i64) (.pair (.int .i64) .unit))) t17) :: (.s (.val (.int .i64) t18) :: (.s (.val (.int .i64) t19) :: (un 27)))))))))), [(0, .row (.int .u8) r0)], 1⟩
def X_R_Sides_0_0 (t5 : Int) (K : AExit → St → Prop) : Prop := K (.exit 0) ⟨un 5 ++ (.s (.val (.int .i64) t5) :: (un 35)), [], 0⟩
def X_R_SamePoints_0_0 (t4 : Bool) (K : AExit → St → Prop) : Prop := K .ret ⟨un 4 ++ (.s (.val .bool t4) :: (un 21)), [], 0⟩
def X_R_SamePoints_0_1  (K : AExit → St → Prop) : Prop := K (.exit 0) ⟨un 26, [], 0⟩
def X_R_Sent_0_0 (r0 : (List (Int × (Int × Unit)))) (K : AExit → St → Prop) : Prop := K (.exit 0) ⟨un 7 ++ (.s (.sl 0) :: (un 39)), [(0, .row (.pair (.int .i64) (.pair (.int .i64) .unit)) r0)], 1⟩
def X_R_Sent_2_0 (t0 : (List Int)) (t1 : Int) (t8 : Int) (r0 : (List (List Int))) (r1 : (List (Int × (Int × Unit)))) (r2 : (List (Int × (Int × Unit)))) (K : AExit → St → Prop) : Prop := K (.exit 2) ⟨.s (.val (.ro (.int .u8)) t0) :: (.s (.val (.int .i64) t1) :: (un 3 ++ (.s (.sl 0) :: (.s (.sl 1) :: (.s (.sl 2) :: (.s (.val (.int .i64) t8) :: (un 38))))))), [(0, .row (.ro (.int .u8)) r0), (1, .row (.pair (.int .i64) (.pair (.int .i64) .unit)) r1), (2, .row (.pair (.int .i64) (.pair (.int .i64) .unit)) r2)], 3⟩
def X_R_Hears_0_0 (t4 : Bool) (K : AExit → St → Prop) : Prop := K .ret ⟨un 4 ++ (.s (.val .bool t4) :: (un 54)), [], 0⟩
def X_R_Hears_0_1  (K : AExit → St → Prop) : Prop := K (.exit 0) ⟨un 59, [], 0⟩
def X_R_Constellation_0_0 (r0 : (List (List Int))) (K : AExit → St → Prop) : Prop := K (.exit 0) ⟨un 4 ++ (.s (.sl 0) :: (un 57)), [(0, .row (.ro (.int .u8)) r0)], 1⟩
def X_R_Constellation_2_0 (t0 : Int) (t5 : Int) (r0 : (List (List Int))) (r1 : (List (List Int))) (K : AExit → St → Prop) : Prop := K (.exit 2) ⟨.s (.val (.int .i64) t0) :: (un 3 ++ (.s (.sl 0) :: (.s (.val (.int .i64) t5) :: (.s (.sl 1) :: (un 55))))), [(0, .row (.ro (.int .u8)) r0), (1, .row (.ro (.int .u8)) r1)], 2⟩
def X_R_Constellation_4_0 (r0 : (List (List Int))) (r1 : (List (Int × (Int × Unit)))) (K : AExit → St → Prop) : Prop := K (.exit 4) ⟨un 4 ++ (.s (.sl 0) :: (un 3 ++ (.s (.sl 1) :: (un 53)))), [(0, .row (.ro (.int .u8)) r0), (1, .row (.pair (.int .i64) (.pair (.int .i64) .unit)) r1)], 2⟩
def X_R_Heard_0_0 (r0 : (List Int)) (K : AExit → St → Prop) : Prop := K (.exit 0) ⟨un 7 ++ (.s (.sl 0) :: (un 80)), [(0, .row (.int .i64) r0)], 1⟩
def X_R_Heard_2_0 (t0 : (List (Int × (Int × Unit)))) (t1 : Int) (t8 : Int) (r0 : (List (List Int))) (r1 : (List (Int × (Int × Unit)))) (r2 : (List Int)) (K : AExit → St → Prop) : Prop := K (.exit 2) ⟨.s (.val (.ro (.pair (.int .i64) (.pair (.int .i64) .unit))) t0) :: (.s (.val (.int .i64) t1) :: (un 3 ++ (.s (.sl 0) :: (.s (.sl 1) :: (.s (.sl 2) :: (.s (.val (.int .i64) t8) :: (un 79))))))), [(0, .row (.ro (.int .u8)) r0), (1, .row (.pair (.int .i64) (.pair (.int .i64) .unit)) r1), (2, .row (.int .i64) r2)], 3⟩
def X_R_Heard_4_0 (t0 : (List (Int × (Int × Unit)))) (t1 : Int) (t8 : Int) (t9 : Int) (t10 : Int) (t11 : Int) (r0 : (List (List Int))) (r1 : (List (Int × (Int × Unit)))) (r2 : (List Int)) (K : AExit → St → Prop) : Prop := K (.exit 4) ⟨.s (.val (.ro (.pair (.int .i64) (.pair (.int .i64) .unit))) t0) :: (.s (.val (.int .i64) t1) :: (un 3 ++ (.s (.sl 0) :: (.s (.sl 1) :: (.s (.sl 2) :: (.s (.val (.int .i64) t8) :: (.s (.val (.int .i64) t9) :: (.s (.val (.int .i64) t10) :: (.s (.val (.int .i64) t11) :: (un 76)))))))))), [(0, .row (.ro (.int .u8)) r0), (1, .row (.pair (.int .i64) (.pair (.int .i64) .unit)) r1), (2, .row (.int .i64) r2)], 3⟩
def X_R_Nearest_0_0 (r0 : (List Int)) (K : AExit → St → Prop) : Prop := K (.exit 0) ⟨un 7 ++ (.s (.sl 0) :: (un 47)), [(0, .row (.int .u8) r0)], 1⟩
def X_R_Nearest_2_0 (t0 : (List (Int × (Int × Unit)))) (t8 : Int) (t9 : Int) (r0 : (List (List Int))) (r1 : (List (Int × (Int × Unit)))) (r2 : (List Int)) (K : AExit → St → Prop) : Prop := K (.exit 2) ⟨.s (.val (.ro (.pair (.int .i64) (.pair (.int .i64) .unit))) t0) :: (un 4 ++ (.s (.sl 0) :: (.s (.sl 1) :: (.s (.sl 2) :: (.s (.val (.int .i64) t8) :: (.s (.val (.int .i64) t9) :: (un 45))))))), [(0, .row (.ro (.int .u8)) r0), (1, .row (.pair (.int .i64) (.pair (.int .i64) .unit)) r1), (2, .row (.int .u8) r2)], 3⟩
end Go.Spec
/- What the functions answer: bits as points. -/
namespace Go.Spec
open Go Go.Lift
def S_wave_side_1 : Summ := { par := [.v (.int .i64), .box (.ro (.int .u8)), .box (.int .i64)], res := [.v (.int .i64)], esc := true, pre := fun x => 0 ≤ x.1 ∧ x.1 ≤ 2 ∧ 0 ≤ x.2.2.1 ∧ x.2.2.1 ≤ 1 ∧ x.2.2.1 + 2 * x.1 < List.length x.2.1 ∧ Bits x.2.1, fn := fun x => ((sgnB x.2.1 (x.2.2.1 + 2 * x.1).toNat, ()), ((), x.2.1, x.2.2.1, ())) }
def S_wave_side : Summ := { par := [.v (.ro (.int .u8)), .v (.int .i64)], res := [.v (.int .i64)], esc := false, pre := fun x => Bits x.1 ∧ (List.length x.1 = 2 ∨ List.length x.1 = 4 ∨ List.length x.1 = 6) ∧ 0 ≤ x.2.1 ∧ x.2.1 ≤ 1, fn := fun x => ((sideL x.1 x.2.1.toNat, ()), ((), (), ())) }
def S_wave_point : Summ := { par := [.v (.ro (.int .u8))], res := [.v (.pair (.int .i64) (.pair (.int .i64) .unit))], esc := false, pre := fun x => Bits x.1 ∧ (List.length x.1 = 2 ∨ List.length x.1 = 4 ∨ List.length x.1 = 6), fn := fun x => ((pointL x.1, ()), ((), ())) }
def S_wave_good : Summ := { par := [.v (.int .i64)], res := [.v .bool], esc := false, pre := fun _ => True, fn := fun x => ((orderB x.1, ()), ((), ())) }
def S_wave_check : Summ := { par := [.v (.ro (.pair (.int .i64) (.pair (.int .i64) .unit))), .v (.int .i64)], res := [.v .bool], esc := false, pre := fun x => (List.length x.1 : Int) ≤ big, fn := fun x => ((hearB x.1 x.2.1, ()), ((), (), ())) }
def p_wave_check_0 (t17 : List Pt) (t18 t19 : Int) : Prop := t18 = t17.length ∧ 0 ≤ t19 ∧ t19 ≤ t18 ∧ (t17.length : Int) ≤ big
def m_wave_check_0 (_t17 : List Pt) (t18 t19 : Int) : Nat := (t18 - t19).toNat
def o_wave_check_0 (t17 : List Pt) (_t18 t19 : Int) (K : AExit → St → Prop) : Prop := condP ((t17.drop t19.toNat).all okPt) (X_wave_check_0_1 K) (X_wave_check_0_0 false K)
def S_wave_bitsOf : Summ := { par := [.v (.int .i64), .v (.int .i64)], res := [.row (.int .u8)], esc := false, pre := fun x => 0 ≤ x.1 ∧ x.1 ≤ 64 ∧ 0 ≤ x.2.1 ∧ x.2.1 ≤ 6, fn := fun x => ((outS x.2.1.toNat x.1.toNat, ()), ((), (), ())) }
def p_wave_bitsOf_0 (t0 t1 t10 t11 : Int) (r0 : List Int) : Prop := 0 ≤ t0 ∧ t0 ≤ 64 ∧ t10 = t1 ∧ 0 ≤ t11 ∧ t11 ≤ t10 ∧ t1 ≤ 6 ∧ (r0.length : Int) = t1
def m_wave_bitsOf_0 (_t0 _t1 t10 t11 : Int) (_r0 : List Int) : Nat := (t10 - t11).toNat
def o_wave_bitsOf_0 (t0 t1 _t10 t11 : Int) (r0 : List Int) (K : AExit → St → Prop) : Prop := X_wave_bitsOf_0_0 (fillFrom r0 t11.toNat fun i => ((t0.toNat / 2 ^ (t1.toNat - 1 - i) % 2 : Nat) : Int)) K
def S_wave_far : Summ := { par := [.v (.pair (.int .i64) (.pair (.int .i64) .unit)), .v (.pair (.int .i64) (.pair (.int .i64) .unit))], res := [.v (.int .i64)], esc := false, pre := fun x => okPt x.1 = true ∧ okPt x.2.1 = true, fn := fun x => ((far x.1 x.2.1, ()), ((), (), ())) }
def S_wave_Send : Summ := { par := [.v (.ro (.int .u8)), .v (.int .i64)], res := [.row (.pair (.int .i64) (.pair (.int .i64) .unit)), .v (.int .i64)], esc := false, pre := fun x => (x.1.length : Int) ≤ big ∧ ∀ y ∈ x.1, 0 ≤ y, fn := fun x => ((sendL x.1 x.2.1, sendErr x.1 x.2.1, ()), ((), (), ())) }
def p_wave_Send_0 (t0 : List Int) (t1 t8 : Int) (r0 : List Pt) : Prop := Bits t0 ∧ (t1 = 2 ∨ t1 = 4 ∨ t1 = 6) ∧ t0.length ≤ 4096 ∧ (t0.length : Int) % t1 = 0 ∧ 0 ≤ t8 ∧ t8 ≤ t0.length ∧ t8 % t1 = 0 ∧ (r0.length : Int) ≤ t8
def m_wave_Send_0 (t0 : List Int) (_t1 t8 : Int) (_r0 : List Pt) : Nat := (t0.length - t8).toNat
def o_wave_Send_0 (t0 : List Int) (t1 t8 : Int) (r0 : List Pt) (K : AExit → St → Prop) : Prop := X_wave_Send_0_0 (r0 ++ sendF t1.toNat ((t0.length - t8.toNat) / t1.toNat) (t0.drop t8.toNat)) K
/-! Hear -/
def hearC (l : List Pt) (o n i : Int) (r : List Int) : Prop := hearB l o = true ∧ n = l.length ∧ 0 ≤ i ∧ i ≤ n ∧ (r.length : Int) ≤ i * o
def hearIn (l : List Pt) (o n i : Int) (r : List Int) (p : Pt) : Prop := hearC l o n i r ∧ i < n ∧ p = l.getD i.toNat (0, 0, ())
def heardErr (l : List Pt) (o : Int) : Int := if hearB l o = true then 0 else 1
def S_wave_Hear : Summ := { par := [.v (.ro (.pair (.int .i64) (.pair (.int .i64) .unit))), .v (.int .i64)], res := [.row (.int .i64), .v (.int .i64)], esc := false, pre := fun x => (List.length x.1 : Int) ≤ big, fn := fun x => ((if hearB x.1 x.2.1 = true then heardL x.1 x.2.1.toNat else [], heardErr x.1 x.2.1, ()), ((), (), ())) }
def p_wave_Hear_0 (t1 : Int) (t21 : List Pt) (t22 t23 : Int) (r0 : List Int) : Prop := hearC t21 t1 t22 t23 r0
def m_wave_Hear_0 (_t1 : Int) (_t21 : List Pt) (t22 t23 : Int) (_r0 : List Int) : Nat := (t22 - t23).toNat
def o_wave_Hear_0 (t1 : Int) (t21 : List Pt) (_t22 t23 : Int) (r0 : List Int) (K : AExit → St → Prop) : Prop := X_wave_Hear_0_0 (r0 ++ heardL (t21.drop t23.toNat) t1.toNat) K
def p_wave_Hear_2 (t1 : Int) (t21 : List Pt) (t22 t23 t30 t31 : Int) (r0 : List Int) (r1 : Pt) (r2 : List (List Int)) : Prop := hearIn t21 t1 t22 t23 r0 r1 ∧ t30 = t1 ∧ (r2.length : Int) = t1 ∧ 0 ≤ t31 ∧ t31 ≤ t30
def m_wave_Hear_2 (_t1 : Int) (_t21 : List Pt) (_t22 _t23 t30 t31 : Int) (_r0 : List Int) (_r1 : Pt) (_r2 : List (List Int)) : Nat := (t30 - t31).toNat
def o_wave_Hear_2 (t1 : Int) (t21 : List Pt) (t22 t23 _t30 t31 : Int) (r0 : List Int) (r1 : Pt) (r2 : List (List Int)) (K : AExit → St → Prop) : Prop := X_wave_Hear_2_0 t1 t21 t22 t23 r0 r1 (fillFrom r2 t31.toNat fun _ => [maxI, maxI]) K
def p_wave_Hear_4 (t1 : Int) (t21 : List Pt) (t22 t23 t40 t41 : Int) (r0 : List Int) (r1 : Pt) (r2 : List (List Int)) : Prop := hearIn t21 t1 t22 t23 r0 r1 ∧ t40 = ((2 ^ t1.toNat : Nat) : Int) ∧ 0 ≤ t41 ∧ t41 ≤ t40 ∧ r2 = seg (lst r1 t1.toNat t41.toNat) 0 t1.toNat
def m_wave_Hear_4 (_t1 : Int) (_t21 : List Pt) (_t22 _t23 t40 t41 : Int) (_r0 : List Int) (_r1 : Pt) (_r2 : List (List Int)) : Nat := (t40 - t41).toNat
def o_wave_Hear_4 (t1 : Int) (t21 : List Pt) (t22 t23 _t40 _t41 : Int) (r0 : List Int) (r1 : Pt) (_r2 : List (List Int)) (K : AExit → St → Prop) : Prop := X_wave_Hear_4_0 t1 t21 t22 t23 r0 (seg (lst r1 t1.toNat (2 ^ t1.toNat)) 0 t1.toNat) K
def p_wave_Hear_6 (t1 t13 : Int) (t21 : List Pt) (t22 t23 t40 t41 t52 t53 : Int) (r0 : List Int) (r1 : Pt) (r2 : List (List Int)) (r3 : List Int) : Prop := hearIn t21 t1 t22 t23 r0 r1 ∧ t40 = ((2 ^ t1.toNat : Nat) : Int) ∧ 0 ≤ t41 ∧ t41 < t40 ∧ t13 = far r1 (pointL (outS t1.toNat t41.toNat)) ∧ r3 = outS t1.toNat t41.toNat ∧ t52 = t1 ∧ 0 ≤ t53 ∧ t53 ≤ t52 ∧ r2 = seg (lst r1 t1.toNat (t41.toNat + 1)) 0 t53.toNat ++ seg (lst r1 t1.toNat t41.toNat) t53.toNat t1.toNat
def m_wave_Hear_6 (_t1 _t13 : Int) (_t21 : List Pt) (_t22 _t23 _t40 _t41 t52 t53 : Int) (_r0 : List Int) (_r1 : Pt) (_r2 : List (List Int)) (_r3 : List Int) : Nat := (t52 - t53).toNat
def o_wave_Hear_6 (t1 _t13 : Int) (t21 : List Pt) (t22 t23 t40 t41 _t52 _t53 : Int) (r0 : List Int) (r1 : Pt) (_r2 : List (List Int)) (_r3 : List Int) (K : AExit → St → Prop) : Prop := X_wave_Hear_6_0 t1 t21 t22 t23 t40 t41 r0 r1 (seg (lst r1 t1.toNat (t41.toNat + 1)) 0 t1.toNat) K
def p_wave_Hear_8 (t1 : Int) (t21 : List Pt) (t22 t23 t78 t79 : Int) (r0 : List Int) (r1 : List (List Int)) : Prop := hearB t21 t1 = true ∧ t22 = t21.length ∧ 0 ≤ t23 ∧ t23 < t22 ∧ (r1.length : Int) = t1 ∧ t78 = t1 ∧ 0 ≤ t79 ∧ t79 ≤ t78 ∧ (r0.length : Int) ≤ t23 * t1 + t79 ∧ ∀ x ∈ r1, 0 ≤ x.getD 0 0 ∧ x.getD 0 0 ≤ maxI ∧ 0 ≤ x.getD 1 0 ∧ x.getD 1 0 ≤ maxI
def m_wave_Hear_8 (_t1 : Int) (_t21 : List Pt) (_t22 _t23 t78 t79 : Int) (_r0 : List Int) (_r1 : List (List Int)) : Nat := (t78 - t79).toNat
def o_wave_Hear_8 (t1 : Int) (t21 : List Pt) (t22 t23 _t78 t79 : Int) (r0 : List Int) (r1 : List (List Int)) (K : AExit → St → Prop) : Prop := X_wave_Hear_8_0 t1 t21 t22 t23 (r0 ++ (r1.drop t79.toNat).map fun x => x.getD 1 0 - x.getD 0 0) K
/-! Near -/
def S_wave_Near : Summ := { par := [.v (.ro (.pair (.int .i64) (.pair (.int .i64) .unit))), .v (.int .i64)], res := [.row (.int .u8), .v (.int .i64)], esc := false, pre := fun x => (List.length x.1 : Int) ≤ big, fn := fun x => ((if hearB x.1 x.2.1 = true then nearL x.1 x.2.1.toNat else [], heardErr x.1 x.2.1, ()), ((), (), ())) }
def p_wave_Near_0 (t1 : Int) (t17 : List Pt) (t18 t19 : Int) (r0 : List Int) : Prop := hearC t17 t1 t18 t19 r0
def m_wave_Near_0 (_t1 : Int) (_t17 : List Pt) (t18 t19 : Int) (_r0 : List Int) : Nat := (t18 - t19).toNat
def o_wave_Near_0 (t1 : Int) (t17 : List Pt) (_t18 t19 : Int) (r0 : List Int) (K : AExit → St → Prop) : Prop := X_wave_Near_0_0 (r0 ++ nearL (t17.drop t19.toNat) t1.toNat) K
def p_wave_Near_2 (t1 t9 t10 : Int) (t17 : List Pt) (t18 t19 t24 t25 : Int) (r0 : List Int) (r1 : Pt) : Prop := hearIn t17 t1 t18 t19 r0 r1 ∧ t24 = ((2 ^ t1.toNat : Nat) : Int) ∧ 0 ≤ t25 ∧ t25 ≤ t24 ∧ t9 = (bestN r1 t1.toNat t25.toNat).1 ∧ t10 = (bestN r1 t1.toNat t25.toNat).2
def m_wave_Near_2 (_t1 _t9 _t10 : Int) (_t17 : List Pt) (_t18 _t19 t24 t25 : Int) (_r0 : List Int) (_r1 : Pt) : Nat := (t24 - t25).toNat
def o_wave_Near_2 (t1 _t9 _t10 : Int) (t17 : List Pt) (t18 t19 _t24 _t25 : Int) (r0 : List Int) (r1 : Pt) (K : AExit → St → Prop) : Prop := X_wave_Near_2_0 t1 ((bestN r1 t1.toNat (2 ^ t1.toNat)).2 : Nat) t17 t18 t19 r0 K
/-! the references -/
def S_R_Sides : Summ := { par := [.v (.ro (.int .u8)), .v (.int .i64)], res := [.v (.int .i64)], esc := false, pre := fun x => Bits x.1 ∧ (List.length x.1 = 2 ∨ List.length x.1 = 4 ∨ List.length x.1 = 6) ∧ 0 ≤ x.2.1 ∧ x.2.1 ≤ 1, fn := fun x => ((sideL x.1 x.2.1.toNat, ()), ((), (), ())) }
def p_R_Sides_0 (t0 : List Int) (t1 t5 t6 : Int) : Prop := Bits t0 ∧ 0 ≤ t1 ∧ t1 ≤ 1 ∧ ∃ m j : Nat, t0.length = 2 * m ∧ 1 ≤ m ∧ m ≤ 3 ∧ j ≤ m ∧ t6 = 2 * (m - 1 - j) + t1 ∧ t5 = inn t0 t1.toNat m j
def m_R_Sides_0 (_t0 : List Int) (_t1 _t5 t6 : Int) : Nat := (t6 + 2).toNat
def o_R_Sides_0 (t0 : List Int) (t1 _t5 _t6 : Int) (K : AExit → St → Prop) : Prop := X_R_Sides_0_0 (sideL t0 t1.toNat) K
def S_R_Hears : Summ := { par := [.v (.ro (.pair (.int .i64) (.pair (.int .i64) .unit))), .v (.int .i64)], res := [.v .bool], esc := false, pre := fun x => (List.length x.1 : Int) ≤ big, fn := fun x => ((hearB x.1 x.2.1, ()), ((), (), ())) }
def p_R_Hears_0 (t0 : List Pt) (t5 : Int) : Prop := 0 ≤ t5 ∧ t5 ≤ t0.length ∧ (t0.length : Int) ≤ big
def m_R_Hears_0 (t0 : List Pt) (t5 : Int) : Nat := (t0.length - t5).toNat
def o_R_Hears_0 (t0 : List Pt) (t5 : Int) (K : AExit → St → Prop) : Prop := condP ((t0.drop t5.toNat).all okPt) (X_R_Hears_0_1 K) (X_R_Hears_0_0 false K)
def S_R_SamePoints : Summ := { par := [.v (.ro (.pair (.int .i64) (.pair (.int .i64) .unit))), .v (.ro (.pair (.int .i64) (.pair (.int .i64) .unit)))], res := [.v .bool], esc := false, pre := fun x => (List.length x.1 : Int) ≤ big, fn := fun x => ((decide (x.1 = x.2.1), ()), ((), (), ())) }
def p_R_SamePoints_0 (t0 t1 : List Pt) (t5 : Int) : Prop := t0.length = t1.length ∧ 0 ≤ t5 ∧ t5 ≤ t0.length ∧ (t0.length : Int) ≤ big
def m_R_SamePoints_0 (t0 _t1 : List Pt) (t5 : Int) : Nat := t0.length - t5.toNat
def o_R_SamePoints_0 (t0 t1 : List Pt) (t5 : Int) (K : AExit → St → Prop) : Prop := condP (decide (t0.drop t5.toNat = t1.drop t5.toNat)) (X_R_SamePoints_0_1 K) (X_R_SamePoints_0_0 false K)
def S_R_Far : Summ := S_wave_far
def S_R_Constellation : Summ := { par := [.v (.int .i64)], res := [.row (.ro (.int .u8)), .row (.pair (.int .i64) (.pair (.int .i64) .unit))], esc := true, pre := fun x => goodO x.1, fn := fun x => ((listsC x.1.toNat, pointsC x.1.toNat, ()), ((), ())) }
def p_R_Constellation_0 (t0 t5 : Int) (r0 : List (List Int)) : Prop := goodO t0 ∧ 0 ≤ t5 ∧ t5 ≤ t0 ∧ r0 = listsC t5.toNat
def m_R_Constellation_0 (t0 t5 : Int) (_r0 : List (List Int)) : Nat := (t0 - t5).toNat
def o_R_Constellation_0 (t0 _t5 : Int) (_r0 : List (List Int)) (K : AExit → St → Prop) : Prop := X_R_Constellation_0_0 (listsC t0.toNat) K
def p_R_Constellation_2 (t0 t5 t7 : Int) (r0 r1 : List (List Int)) : Prop := goodO t0 ∧ 0 ≤ t5 ∧ t5 < t0 ∧ 0 ≤ t7 ∧ t7 ≤ r0.length ∧ r0.length ≤ 64 ∧ (∀ l ∈ r0, List.length l ≤ 6) ∧ (r1.length : Int) ≤ 2 * t7
def m_R_Constellation_2 (_t0 _t5 t7 : Int) (r0 _r1 : List (List Int)) : Nat := (r0.length - t7).toNat
def o_R_Constellation_2 (t0 t5 t7 : Int) (r0 r1 : List (List Int)) (K : AExit → St → Prop) : Prop := X_R_Constellation_2_0 t0 t5 r0 (r1 ++ (r0.drop t7.toNat).flatMap two) K
def p_R_Constellation_4 (t9 : Int) (r0 : List (List Int)) (r1 : List Pt) : Prop := 0 ≤ t9 ∧ t9 ≤ r0.length ∧ r0.length ≤ 64 ∧ (∀ l ∈ r0, Bits l ∧ (List.length l = 2 ∨ List.length l = 4 ∨ List.length l = 6)) ∧ (r1.length : Int) ≤ t9
def m_R_Constellation_4 (t9 : Int) (r0 : List (List Int)) (_r1 : List Pt) : Nat := (r0.length - t9).toNat
def o_R_Constellation_4 (t9 : Int) (r0 : List (List Int)) (r1 : List Pt) (K : AExit → St → Prop) : Prop := X_R_Constellation_4_0 r0 (r1 ++ (r0.drop t9.toNat).map pointL) K
def sentC (b : List Int) (o i : Int) (r : List Pt) : Prop := Bits b ∧ goodO o ∧ b.length ≤ 4096 ∧ (b.length : Int) % o = 0 ∧ 0 ≤ i ∧ i ≤ b.length ∧ i % o = 0 ∧ (r.length : Int) ≤ i * 64
def S_R_Sent : Summ := { par := [.v (.ro (.int .u8)), .v (.int .i64)], res := [.row (.pair (.int .i64) (.pair (.int .i64) .unit))], esc := false, pre := fun x => sendErr x.1 x.2.1 = 0, fn := fun x => ((sendL x.1 x.2.1, ()), ((), (), ())) }
def p_R_Sent_0 (t0 : List Int) (t1 t8 : Int) (r0 : List (List Int)) (r1 r2 : List Pt) : Prop := sentC t0 t1 t8 r2 ∧ r0 = listsC t1.toNat ∧ r1 = pointsC t1.toNat
def m_R_Sent_0 (t0 : List Int) (_t1 t8 : Int) (_r0 : List (List Int)) (_r1 _r2 : List Pt) : Nat := (t0.length - t8).toNat
def o_R_Sent_0 (t0 : List Int) (t1 t8 : Int) (_r0 : List (List Int)) (_r1 r2 : List Pt) (K : AExit → St → Prop) : Prop := X_R_Sent_0_0 (r2 ++ sendF t1.toNat ((t0.length - t8.toNat) / t1.toNat) (t0.drop t8.toNat)) K
def p_R_Sent_2 (t0 : List Int) (t1 t8 t9 : Int) (r0 : List (List Int)) (r1 r2 : List Pt) : Prop := Bits t0 ∧ goodO t1 ∧ t0.length ≤ 4096 ∧ 0 ≤ t8 ∧ t8 + t1 ≤ t0.length ∧ r0 = listsC t1.toNat ∧ r1 = pointsC t1.toNat ∧ 0 ≤ t9 ∧ t9 ≤ r0.length ∧ (r2.length : Int) ≤ t8 * 64 + t9
def m_R_Sent_2 (_t0 : List Int) (_t1 _t8 t9 : Int) (r0 : List (List Int)) (_r1 _r2 : List Pt) : Nat := (r0.length - t9).toNat
def o_R_Sent_2 (t0 : List Int) (t1 t8 t9 : Int) (r0 : List (List Int)) (r1 r2 : List Pt) (K : AExit → St → Prop) : Prop := X_R_Sent_2_0 t0 t1 t8 r0 r1 (r2 ++ hits ((t0.drop t8.toNat).take t1.toNat) (r0.drop t9.toNat)) K
def S_R_Heard : Summ := { par := [.v (.ro (.pair (.int .i64) (.pair (.int .i64) .unit))), .v (.int .i64)], res := [.row (.int .i64)], esc := false, pre := fun x => hearB x.1 x.2.1 = true, fn := fun x => ((heardL x.1 x.2.1.toNat, ()), ((), (), ())) }
def p_R_Heard_0 (t0 : List Pt) (t1 t8 : Int) (r0 : List (List Int)) (r1 : List Pt) (r2 : List Int) : Prop := hearC t0 t1 t0.length t8 r2 ∧ r0 = listsC t1.toNat ∧ r1 = pointsC t1.toNat
def m_R_Heard_0 (t0 : List Pt) (_t1 t8 : Int) (_r0 : List (List Int)) (_r1 : List Pt) (_r2 : List Int) : Nat := (t0.length - t8).toNat
def o_R_Heard_0 (t0 : List Pt) (t1 t8 : Int) (_r0 : List (List Int)) (_r1 : List Pt) (r2 : List Int) (K : AExit → St → Prop) : Prop := X_R_Heard_0_0 (r2 ++ heardL (t0.drop t8.toNat) t1.toNat) K
def hears2 (t0 : List Pt) (t1 t8 t9 : Int) (r0 : List (List Int)) (r1 : List Pt) (r2 : List Int) : Prop := hearB t0 t1 = true ∧ 0 ≤ t8 ∧ t8 < t0.length ∧ r0 = listsC t1.toNat ∧ r1 = pointsC t1.toNat ∧ 0 ≤ t9 ∧ t9 ≤ t1 ∧ (r2.length : Int) ≤ t8 * t1 + t9
def p_R_Heard_2 (t0 : List Pt) (t1 t8 t9 : Int) (r0 : List (List Int)) (r1 : List Pt) (r2 : List Int) : Prop := hears2 t0 t1 t8 t9 r0 r1 r2
def m_R_Heard_2 (_t0 : List Pt) (t1 _t8 t9 : Int) (_r0 : List (List Int)) (_r1 : List Pt) (_r2 : List Int) : Nat := (t1 - t9).toNat
def o_R_Heard_2 (t0 : List Pt) (t1 t8 t9 : Int) (r0 : List (List Int)) (r1 : List Pt) (r2 : List Int) (K : AExit → St → Prop) : Prop := X_R_Heard_2_0 t0 t1 t8 r0 r1 (r2 ++ seg (heardAt (t0.getD t8.toNat (0, 0, ())) t1.toNat) t9.toNat t1.toNat) K
def p_R_Heard_4 (t0 : List Pt) (t1 t8 t9 t10 t11 t12 : Int) (r0 : List (List Int)) (r1 : List Pt) (r2 : List Int) : Prop := hears2 t0 t1 t8 t9 r0 r1 r2 ∧ t9 < t1 ∧ 0 ≤ t12 ∧ t12 ≤ r0.length ∧ t10 = refL (t0.getD t8.toNat (0, 0, ())) t1.toNat t9.toNat 1 t12.toNat ∧ t11 = refL (t0.getD t8.toNat (0, 0, ())) t1.toNat t9.toNat 0 t12.toNat
def m_R_Heard_4 (_t0 : List Pt) (_t1 _t8 _t9 _t10 _t11 t12 : Int) (r0 : List (List Int)) (_r1 : List Pt) (_r2 : List Int) : Nat := (r0.length - t12).toNat
def o_R_Heard_4 (t0 : List Pt) (t1 t8 t9 _t10 _t11 _t12 : Int) (r0 : List (List Int)) (r1 : List Pt) (r2 : List Int) (K : AExit → St → Prop) : Prop := X_R_Heard_4_0 t0 t1 t8 t9 (refL (t0.getD t8.toNat (0, 0, ())) t1.toNat t9.toNat 1 (2 ^ t1.toNat)) (refL (t0.getD t8.toNat (0, 0, ())) t1.toNat t9.toNat 0 (2 ^ t1.toNat)) r0 r1 r2 K
def S_R_Nearest : Summ := { par := [.v (.ro (.pair (.int .i64) (.pair (.int .i64) .unit))), .v (.int .i64)], res := [.row (.int .u8)], esc := false, pre := fun x => hearB x.1 x.2.1 = true, fn := fun x => ((nearL x.1 x.2.1.toNat, ()), ((), (), ())) }
/-- the order's lists and points -/
def consC (l : List Pt) (r0 : List (List Int)) (r1 : List Pt) (i : Int) (r2 : List Int) (o : Int) : Prop := hearC l o l.length i r2 ∧ r0 = listsC o.toNat ∧ r1 = pointsC o.toNat
def p_R_Nearest_0 (t0 : List Pt) (t8 : Int) (r0 : List (List Int)) (r1 : List Pt) (r2 : List Int) : Prop := ∃ o, consC t0 r0 r1 t8 r2 o
def m_R_Nearest_0 (t0 : List Pt) (t8 : Int) (_r0 : List (List Int)) (_r1 : List Pt) (_r2 : List Int) : Nat := (t0.length - t8).toNat
def ordOf (r0 : List (List Int)) : Nat := (r0.getD 0 []).length
def o_R_Nearest_0 (t0 : List Pt) (t8 : Int) (r0 : List (List Int)) (_r1 : List Pt) (r2 : List Int) (K : AExit → St → Prop) : Prop := X_R_Nearest_0_0 (r2 ++ nearL (t0.drop t8.toNat) (ordOf r0)) K
def p_R_Nearest_2 (t0 : List Pt) (t8 t9 t10 : Int) (r0 : List (List Int)) (r1 : List Pt) (r2 : List Int) : Prop := ∃ o, consC t0 r0 r1 t8 r2 o ∧ t8 < t0.length ∧ 1 ≤ t10 ∧ t10 ≤ r0.length ∧ t9 = (bestN (t0.getD t8.toNat (0, 0, ())) o.toNat t10.toNat).2
def m_R_Nearest_2 (_t0 : List Pt) (_t8 _t9 t10 : Int) (r0 : List (List Int)) (_r1 : List Pt) (_r2 : List Int) : Nat := (r0.length - t10).toNat
def o_R_Nearest_2 (t0 : List Pt) (t8 _t9 _t10 : Int) (r0 : List (List Int)) (r1 : List Pt) (r2 : List Int) (K : AExit → St → Prop) : Prop := X_R_Nearest_2_0 t0 t8 ((bestN (t0.getD t8.toNat (0, 0, ())) (ordOf r0) (2 ^ ordOf r0)).2 : Nat) r0 r1 r2 K
def S_law_WaveSays : Summ := { par := [.v (.ro (.int .u8)), .v (.ro (.pair (.int .i64) (.pair (.int .i64) .unit))), .v (.int .i64)], res := [.v .bool], esc := false, pre := fun x => (List.length x.1 : Int) ≤ big ∧ (∀ y ∈ x.1, 0 ≤ y) ∧ (List.length x.2.1 : Int) ≤ big, fn := fun _ => ((true, ()), ((), (), (), ())) }
end Go.Spec
