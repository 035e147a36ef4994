/- The order of a word's places, its table, what is picked. -/
import Derived.Test.YtppemehkbnbjlaaN3
import Derived.Test.YtppemehkbnbjlaaS1
set_option linter.unusedVariables false
set_option linter.unusedSimpArgs false
namespace Go.Spec
open Go Go.Lift
def cols : List Int := Go.Proofs.Try.cols
theorem turnL_eq (n : Int) : turnL n = cols.flatMap (Go.Proofs.Try.col n) := rfl
theorem col_nil {n p : Int} (h : n ≤ p) : Go.Proofs.Try.col n p = [] := by rw [Go.Proofs.Try.col, if_neg (by omega)]
theorem col_cons {n p : Int} (h : p < n) : Go.Proofs.Try.col n p = p :: Go.Proofs.Try.col n (p + 8) := by rw [Go.Proofs.Try.col, if_pos h]
theorem col_length (n : Int) : ∀ (k : Nat) (p : Int), (n - p).toNat ≤ k → (Go.Proofs.Try.col n p).length = ((n - p + 7) / 8).toNat
  | 0, p, h => by rw [col_nil (by omega)]; simp; omega
  | k + 1, p, h => by
    by_cases hp : p < n
    · rw [col_cons hp, List.length_cons, col_length n k (p + 8) (by omega)]; omega
    · rw [col_nil (by omega)]; simp; omega
theorem col_range (n : Int) : ∀ (k : Nat) (p : Int), (n - p).toNat ≤ k → ∀ x ∈ Go.Proofs.Try.col n p, p ≤ x ∧ x < n
  | 0, p, h => by rw [col_nil (by omega)]; intro x hx; cases hx
  | k + 1, p, h => by
    by_cases hp : p < n
    · rw [col_cons hp]
      intro x hx
      rcases List.mem_cons.1 hx with rfl | hx
      · omega
      · have := col_range n k (p + 8) (by omega) x hx; omega
    · rw [col_nil (by omega)]; intro x hx; cases hx
theorem col_len8 (q r p : Nat) (hr : r < 8) (hp : p < 8) : (Go.Proofs.Try.col ((8 * q + r : Nat) : Int) (p : Nat)).length = q + (if p < r then 1 else 0) := by
  rw [col_length _ _ _ (Nat.le_refl _)]
  split <;> omega
theorem turnL_length {n : Int} (h : 0 ≤ n) : (turnL n).length = n.toNat := by
  obtain ⟨m, rfl⟩ := Int.eq_ofNat_of_zero_le h
  obtain ⟨q, r, hr, rfl⟩ : ∃ q r, r < 8 ∧ m = 8 * q + r := ⟨m / 8, m % 8, by omega, by omega⟩
  have hc := col_len8 q r
  have e : (turnL ((8 * q + r : Nat) : Int)).length = (q + if 0 < r then 1 else 0) + ((q + if 4 < r then 1 else 0) + ((q + if 2 < r then 1 else 0) + ((q + if 6 < r then 1 else 0) + ((q + if 1 < r then 1 else 0) + ((q + if 5 < r then 1 else 0) + ((q + if 3 < r then 1 else 0) + ((q + if 7 < r then 1 else 0) + 0))))))) := by
    rw [← hc 0 hr (by omega), ← hc 4 hr (by omega), ← hc 2 hr (by omega), ← hc 6 hr (by omega), ← hc 1 hr (by omega), ← hc 5 hr (by omega), ← hc 3 hr (by omega), ← hc 7 hr (by omega)]
    simp only [turnL, Go.Proofs.Try.turnL, Go.Proofs.Try.cols, List.flatMap_cons, List.flatMap_nil, List.length_append, List.length_nil]
    rfl
  rw [e, Int.toNat_natCast]
  have : r = 0 ∨ r = 1 ∨ r = 2 ∨ r = 3 ∨ r = 4 ∨ r = 5 ∨ r = 6 ∨ r = 7 := by omega
  rcases this with rfl | rfl | rfl | rfl | rfl | rfl | rfl | rfl <;> simp <;> omega
theorem turnL_range {n : Int} : ∀ x ∈ turnL n, 0 ≤ x ∧ x < n := by
  intro x hx
  obtain ⟨c, hc, hx⟩ := List.mem_flatMap.1 hx
  have := col_range n _ c (Nat.le_refl _) x hx
  have : 0 ≤ c := by
    simp [Go.Proofs.Try.cols] at hc
    omega
  omega
theorem turnL_at {n : Int} {i : Nat} (h : (i : Int) < n) : 0 ≤ (turnL n).getD i 0 ∧ (turnL n).getD i 0 < n := by
  have hl := turnL_length (n := n) (by omega)
  have hi : i < (turnL n).length := by omega
  rw [List.getD_eq_getElem?_getD, List.getElem?_eq_getElem hi]
  exact turnL_range _ (List.getElem_mem _)
/-! the document's table -/
def rowL (i r : Nat) : List Int := (List.range (min 8 (i - 8 * r))).map fun j => ((8 * r + j : Nat) : Int)
def tabL : Nat → List (List Int)
  | 0 => []
  | i + 1 => (if i % 8 = 0 then tabL i ++ [[]] else tabL i).set (i / 8) ((if i % 8 = 0 then tabL i ++ [[]] else tabL i).getD (i / 8) [] ++ [(i : Int)])
theorem tab_char : ∀ i, (tabL i).length = (i + 7) / 8 ∧ ∀ r, r < (i + 7) / 8 → (tabL i).getD r [] = rowL i r
  | 0 => ⟨rfl, fun r h => by omega⟩
  | i + 1 => by
    obtain ⟨h1, h2⟩ := tab_char i
    unfold tabL
    by_cases h : i % 8 = 0
    · simp only [if_pos h]
      refine ⟨by simp [h1]; omega, fun r hr => ?_⟩
      by_cases hri : r = i / 8
      · subst hri
        rw [List.getD_eq_getElem?_getD, List.getElem?_set_self (by simp [h1]; omega), Option.getD_some, List.getD_eq_getElem?_getD, List.getElem?_append_right (by omega)]
        have e : i / 8 - (tabL i).length = 0 := by omega
        rw [e]
        have e2 : min 8 (i + 1 - 8 * (i / 8)) = 1 := by omega
        unfold rowL
        rw [e2]
        simp; omega
      · rw [List.getD_eq_getElem?_getD, List.getElem?_set_ne (by omega), List.getElem?_append_left (by omega), ← List.getD_eq_getElem?_getD, h2 r (by omega)]
        unfold rowL
        have : min 8 (i + 1 - 8 * r) = min 8 (i - 8 * r) := by omega
        rw [this]
    · simp only [if_neg h]
      refine ⟨by simp [h1]; omega, fun r hr => ?_⟩
      by_cases hri : r = i / 8
      · subst hri
        rw [List.getD_eq_getElem?_getD, List.getElem?_set_self (by omega), Option.getD_some, h2 _ (by omega)]
        unfold rowL
        have e2 : min 8 (i + 1 - 8 * (i / 8)) = min 8 (i - 8 * (i / 8)) + 1 := by omega
        rw [e2, List.range_succ, List.map_append]
        congr 1
        simp; omega
      · rw [List.getD_eq_getElem?_getD, List.getElem?_set_ne (by omega), ← List.getD_eq_getElem?_getD, h2 r (by omega)]
        unfold rowL
        have : min 8 (i + 1 - 8 * r) = min 8 (i - 8 * r) := by omega
        rw [this]
theorem tab_map (n : Nat) : tabL n = (List.range ((n + 7) / 8)).map (rowL n) := by
  obtain ⟨h1, h2⟩ := tab_char n
  refine List.ext_getElem (by simp [h1]) fun i hi hi' => ?_
  have := h2 i (by omega)
  rw [List.getD_eq_getElem?_getD, List.getElem?_eq_getElem hi, Option.getD_some] at this
  simp [this]
def pickCol (r0 : List (List Int)) (c : Int) : List Int := r0.flatMap fun row => if c < (row.length : Int) then [row.getD c.toNat 0] else []
theorem pick_from (n c : Nat) (hc : c < 8) : ∀ (k r : Nat), r + k = (n + 7) / 8 → pickCol ((List.range' r k).map (rowL n)) c = Go.Proofs.Try.col n ((8 * r + c : Nat) : Int)
  | 0, r, h => by rw [col_nil (by omega)]; rfl
  | k + 1, r, h => by
    have ih := pick_from n c hc k (r + 1) (by omega)
    have hl : (rowL n r).length = min 8 (n - 8 * r) := by simp [rowL]
    have e : pickCol ((List.range' r (k + 1)).map (rowL n)) c = (if (c : Int) < ((rowL n r).length : Int) then [(rowL n r).getD (c : Int).toNat 0] else []) ++ pickCol ((List.range' (r + 1) k).map (rowL n)) c := by
      simp [pickCol, List.range'_succ]
    rw [e, ih]
    by_cases hp : 8 * r + c < n
    · rw [if_pos (by omega), col_cons (p := ((8 * r + c : Nat) : Int)) (by omega)]
      have : (rowL n r).getD (c : Int).toNat 0 = ((8 * r + c : Nat) : Int) := by
        rw [Int.toNat_natCast, List.getD_eq_getElem?_getD, List.getElem?_eq_getElem (by omega)]
        simp [rowL]
      rw [this]
      simp only [List.cons_append, List.nil_append]
      congr 2
      omega
    · rw [if_neg (by omega), col_nil (p := ((8 * r + c : Nat) : Int)) (by omega), col_nil (by omega)]; rfl
theorem pick_tab (n : Nat) {c : Int} (h0 : 0 ≤ c) (h1 : c < 8) : pickCol (tabL n) c = Go.Proofs.Try.col n c := by
  obtain ⟨k, rfl⟩ := Int.eq_ofNat_of_zero_le h0
  have := pick_from n k (by omega) ((n + 7) / 8) 0 (by omega)
  rw [tab_map, List.range_eq_range', this]
  congr 1
  omega
theorem cols_tab (n : Int) : cols.flatMap (pickCol (tabL n.toNat)) = turnL n := by
  have hc : ∀ c ∈ cols, pickCol (tabL n.toNat) c = Go.Proofs.Try.col n c := fun c hc => by
    have : 0 ≤ c ∧ c < 8 := by simp [cols, Go.Proofs.Try.cols] at hc; omega
    rw [pick_tab _ this.1 this.2]
    by_cases h : 0 ≤ n
    · rw [Int.toNat_of_nonneg h]
    · rw [col_nil (by omega), col_nil (by omega)]
  rw [turnL_eq]
  simp only [cols, Go.Proofs.Try.cols, List.flatMap_cons, List.flatMap_nil, List.mem_cons, forall_eq_or_imp] at hc ⊢
  simp only [hc]
/-! what is picked -/
def beginOf (n v : Int) : Int × Int := if 1 ≤ n ∧ n ≤ 4096 ∧ 0 ≤ v ∧ v ≤ 3 then (Int.tdiv (v * n) 4, 0) else (0, 1)
def pickedL (n at' : Int) (k : Nat) : List Int := (List.range k).map fun (i : Nat) => (turnL n).getD ((at' + (i : Int)) % n).toNat 0
def nextAt (n at' : Int) : Int := if at' + 1 = n then 0 else at' + 1
theorem picked_cons {n a : Int} (h : 0 ≤ a ∧ a < n) (k : Nat) : pickedL n a (k + 1) = (turnL n).getD a.toNat 0 :: pickedL n (nextAt n a) k := by
  unfold pickedL
  rw [List.range_succ_eq_map, List.map_cons, List.map_map]
  congr 1
  · simp [Int.emod_eq_of_lt h.1 h.2]
  · refine List.map_congr_left fun i _ => ?_
    show (turnL n).getD ((a + ((i + 1 : Nat) : Int)) % n).toNat 0 = (turnL n).getD ((nextAt n a + i) % n).toNat 0
    have : (a + ((i + 1 : Nat) : Int)) % n = (nextAt n a + i) % n := by
      unfold nextAt
      split
      · rename_i e
        rw [show a + ((i + 1 : Nat) : Int) = (0 + i) + n by omega, Int.add_emod_right]
      · congr 1; omega
    rw [this]
theorem picked_at {n a : Int} (hn : 0 < n) {k i : Nat} (h : i < k) : (pickedL n a k)[i]'(by simpa [pickedL] using h) = (turnL n).getD ((a + i) % n).toNat 0 := by simp [pickedL]
theorem picked_length (n a : Int) (k : Nat) : (pickedL n a k).length = k := by simp [pickedL]
theorem picked_range {n a : Int} (hn : 0 < n) {k i : Nat} (h : i < k) : 0 ≤ (pickedL n a k).getD i 0 ∧ (pickedL n a k).getD i 0 < n := by
  have hi : i < (pickedL n a k).length := by rw [picked_length]; exact h
  rw [List.getD_eq_getElem?_getD, List.getElem?_eq_getElem hi, Option.getD_some, picked_at hn h]
  have h1 := Int.emod_nonneg (a + i) (show n ≠ 0 by omega)
  have h2 := Int.emod_lt_of_pos (a + i) hn
  exact turnL_at (by omega)
def pickL (c : List Int) (a : Int) (k : Nat) : List Int := (pickedL c.length a k).map fun p => c.getD p.toNat 0
end Go.Spec
