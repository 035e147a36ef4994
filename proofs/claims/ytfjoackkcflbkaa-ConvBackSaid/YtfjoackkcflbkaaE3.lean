/- Lines for the functions of this seat; merged from texts of their own. -/
import Derived.Test.YtfjoackkcflbkaaP5
import Derived.Test.YtfjoackkcflbkaaLF
set_option linter.unusedVariables false
set_option linter.unusedSimpArgs false
/- Plain facts: the transform by halves. -/
namespace Go.Spec
open Go Go.Lift
def powB (n : Int) : Bool := [1, 2, 4, 8, 16, 32, 64, 128, 256, 512].contains n
theorem powB_spec {n : Nat} (h : powB n = true) : ∃ m, m ≤ 9 ∧ n = 2 ^ m := by
  simp only [powB, List.contains_eq_mem, List.mem_cons, List.not_mem_nil, or_false, decide_eq_true_eq] at h
  rcases h with h | h | h | h | h | h | h | h | h | h
  · exact ⟨0, by omega, by omega⟩
  · exact ⟨1, by omega, by omega⟩
  · exact ⟨2, by omega, by omega⟩
  · exact ⟨3, by omega, by omega⟩
  · exact ⟨4, by omega, by omega⟩
  · exact ⟨5, by omega, by omega⟩
  · exact ⟨6, by omega, by omega⟩
  · exact ⟨7, by omega, by omega⟩
  · exact ⟨8, by omega, by omega⟩
  · exact ⟨9, by omega, by omega⟩
theorem powB_pow {m : Nat} (h : m ≤ 9) : powB ((2 ^ m : Nat) : Int) = true := by
  have : m = 0 ∨ m = 1 ∨ m = 2 ∨ m = 3 ∨ m = 4 ∨ m = 5 ∨ m = 6 ∨ m = 7 ∨ m = 8 ∨ m = 9 := by omega
  rcases this with rfl | rfl | rfl | rfl | rfl | rfl | rfl | rfl | rfl | rfl <;> decide
def turnL : Nat → List Int → List Int
  | 0, b => b
  | m + 1, b => addL (turnL m (b.take (2 ^ m))) (turnL m (b.drop (2 ^ m))) ++ turnL m (b.drop (2 ^ m))
theorem addL_len (a b : List Int) : (addL a b).length = a.length := addL_length a b
theorem turnL_length : ∀ (m : Nat) (b : List Int), b.length = 2 ^ m → (turnL m b).length = 2 ^ m
  | 0, b, h => h
  | m + 1, b, h => by
    rw [Nat.pow_succ] at h ⊢
    simp only [turnL, List.length_append, addL_length]
    rw [turnL_length m (b.take (2 ^ m)) (by rw [List.length_take]; omega), turnL_length m (b.drop (2 ^ m)) (by rw [List.length_drop]; omega)]
    omega
theorem addL_bits (a b : List Int) : Bits (addL a b) := Bits.seg fun _ => mod2 _
theorem Bits.take {l : List Int} (h : Bits l) (n : Nat) : Bits (l.take n) := fun x hx => h x (List.mem_of_mem_take hx)
theorem Bits.drop {l : List Int} (h : Bits l) (n : Nat) : Bits (l.drop n) := fun x hx => h x (List.mem_of_mem_drop hx)
theorem Bits.app {l k : List Int} (h : Bits l) (h' : Bits k) : Bits (l ++ k) := fun x hx => (List.mem_append.1 hx).elim (h x) (h' x)
theorem turnL_bits : ∀ (m : Nat) (b : List Int), Bits b → Bits (turnL m b)
  | 0, _, h => h
  | m + 1, b, h => (addL_bits _ _).app (turnL_bits m _ (h.drop _))
/-! lists added -/
theorem list_ext {a b : List Int} (hl : a.length = b.length) (h : ∀ k, k < a.length → a.getD k 0 = b.getD k 0) : a = b := by
  refine List.ext_getElem hl fun i h1 h2 => ?_
  have := h i h1
  rw [List.getD_eq_getElem?_getD, List.getD_eq_getElem?_getD, List.getElem?_eq_getElem h1, List.getElem?_eq_getElem h2] at this
  simpa using this
theorem addL_getD {a b : List Int} {k : Nat} (h : k < a.length) : (addL a b).getD k 0 = (a.getD k 0 + b.getD k 0) % 2 := by
  unfold addL; rw [seg_getD _ h]
theorem getD_app_left {a b : List Int} {k : Nat} (h : k < a.length) : (a ++ b).getD k 0 = a.getD k 0 := by
  rw [List.getD_eq_getElem?_getD, List.getElem?_append_left h, ← List.getD_eq_getElem?_getD]
theorem getD_app_right {a b : List Int} {k : Nat} (h : a.length ≤ k) : (a ++ b).getD k 0 = b.getD (k - a.length) 0 := by
  rw [List.getD_eq_getElem?_getD, List.getElem?_append_right h, ← List.getD_eq_getElem?_getD]
theorem getD_take' {b : List Int} {i j : Nat} (h : j < i) : (b.take i).getD j 0 = b.getD j 0 := by rw [getD_take, if_pos h]
theorem getD_drop {b : List Int} {i j : Nat} : (b.drop i).getD j 0 = b.getD (i + j) 0 := by
  rw [List.getD_eq_getElem?_getD, List.getElem?_drop, ← List.getD_eq_getElem?_getD]
theorem addL_app {a b c d : List Int} (h : a.length = c.length) : addL (a ++ b) (c ++ d) = addL a c ++ addL b d := by
  refine list_ext (by simp [addL_length]) fun k hk => ?_
  rw [addL_length] at hk
  rw [addL_getD hk]
  by_cases h1 : k < a.length
  · rw [getD_app_left h1, getD_app_left (by omega), getD_app_left (by rw [addL_length]; omega), addL_getD h1]
  · rw [List.length_append] at hk
    rw [getD_app_right (by omega), getD_app_right (by omega), getD_app_right (by rw [addL_length]; omega), addL_length, addL_getD (by omega), h]
theorem addL_take (a b : List Int) (n : Nat) : (addL a b).take n = addL (a.take n) (b.take n) := by
  refine list_ext (by simp [addL_length]) fun k hk => ?_
  rw [List.length_take, addL_length] at hk
  rw [getD_take' (by omega), addL_getD (by omega), addL_getD (by rw [List.length_take]; omega), getD_take' (by omega), getD_take' (by omega)]
theorem addL_drop (a b : List Int) (n : Nat) : (addL a b).drop n = addL (a.drop n) (b.drop n) := by
  refine list_ext (by simp [addL_length]) fun k hk => ?_
  rw [List.length_drop, addL_length] at hk
  rw [getD_drop, addL_getD (by omega), addL_getD (by rw [List.length_drop]; omega), getD_drop, getD_drop]
theorem addL_swap {a b c d : List Int} (h1 : a.length = b.length) (_h2 : a.length = c.length) (h3 : a.length = d.length) : addL (addL a b) (addL c d) = addL (addL a c) (addL b d) := by
  refine list_ext (by simp [addL_length]) fun k hk => ?_
  simp only [addL_length] at hk
  rw [addL_getD (by rw [addL_length]; exact hk), addL_getD hk, addL_getD (by omega), addL_getD (by rw [addL_length]; exact hk), addL_getD hk, addL_getD (by omega)]
  omega
theorem addL_self {a b : List Int} (ha : Bits a) (h : a.length = b.length) : addL (addL a b) b = a := by
  refine list_ext (by simp [addL_length]) fun k hk => ?_
  simp only [addL_length] at hk
  rw [addL_getD (by rw [addL_length]; exact hk), addL_getD hk]
  have := ha.getD k
  omega
theorem turnL_add : ∀ (m : Nat) (a b : List Int), a.length = 2 ^ m → b.length = 2 ^ m → turnL m (addL a b) = addL (turnL m a) (turnL m b)
  | 0, _, _, _, _ => rfl
  | m + 1, a, b, ha, hb => by
    rw [Nat.pow_succ] at ha hb
    have la : (a.take (2 ^ m)).length = 2 ^ m := by rw [List.length_take]; omega
    have lb : (b.take (2 ^ m)).length = 2 ^ m := by rw [List.length_take]; omega
    have da : (a.drop (2 ^ m)).length = 2 ^ m := by rw [List.length_drop]; omega
    have db : (b.drop (2 ^ m)).length = 2 ^ m := by rw [List.length_drop]; omega
    simp only [turnL, addL_take, addL_drop]
    rw [turnL_add m _ _ la lb, turnL_add m _ _ da db]
    rw [addL_app (by simp only [addL_length]; rw [turnL_length m _ la, turnL_length m _ lb])]
    rw [addL_swap (by rw [turnL_length m _ la, turnL_length m _ lb]) (by rw [turnL_length m _ la, turnL_length m _ da]) (by rw [turnL_length m _ la, turnL_length m _ db])]
/-- WHAT IS TURNED TWICE IS AS IT WAS. -/
theorem turnL_twice : ∀ (m : Nat) (a : List Int), Bits a → a.length = 2 ^ m → turnL m (turnL m a) = a
  | 0, _, _, _ => rfl
  | m + 1, a, hb, ha => by
    rw [Nat.pow_succ] at ha
    have la : (a.take (2 ^ m)).length = 2 ^ m := by rw [List.length_take]; omega
    have da : (a.drop (2 ^ m)).length = 2 ^ m := by rw [List.length_drop]; omega
    have hx := turnL_length m _ la
    have hy := turnL_length m _ da
    have hl : (addL (turnL m (a.take (2 ^ m))) (turnL m (a.drop (2 ^ m)))).length = 2 ^ m := by rw [addL_length, hx]
    have e1 : (addL (turnL m (a.take (2 ^ m))) (turnL m (a.drop (2 ^ m))) ++ turnL m (a.drop (2 ^ m))).take (2 ^ m) = addL (turnL m (a.take (2 ^ m))) (turnL m (a.drop (2 ^ m))) := by
      rw [List.take_append_of_le_length (by omega), List.take_of_length_le (by omega)]
    have e2 : (addL (turnL m (a.take (2 ^ m))) (turnL m (a.drop (2 ^ m))) ++ turnL m (a.drop (2 ^ m))).drop (2 ^ m) = turnL m (a.drop (2 ^ m)) := by
      rw [List.drop_append_of_le_length (by omega), List.drop_eq_nil_of_le (by omega), List.nil_append]
    simp only [turnL, e1, e2]
    rw [turnL_add m _ _ hx hy, turnL_twice m _ (hb.take _) la, turnL_twice m _ (hb.drop _) da, addL_self (hb.take _) (by rw [la, da]), List.take_append_drop]
/-! ### in place: butterflies, the smallest first -/
def stF (h i : Nat) (r : List Int) : List Int := seg (fun k => if i ≤ k ∧ k / h % 2 = 0 then (r.getD k 0 + r.getD (k + h) 0) % 2 else r.getD k 0) 0 r.length
def st4 (h i k : Nat) (r : List Int) : List Int := seg (fun q => if k ≤ q ∧ q < i + h then (r.getD q 0 + r.getD (q + h) 0) % 2 else r.getD q 0) 0 r.length
def stagesJ : Nat → Nat → List Int → List Int
  | 0, _, b => b
  | d + 1, j, b => stagesJ d (j + 1) (stF (2 ^ j) 0 b)
theorem stF_length (h i : Nat) (r : List Int) : (stF h i r).length = r.length := by unfold stF; rw [seg_length]; omega
theorem st4_length (h i k : Nat) (r : List Int) : (st4 h i k r).length = r.length := by unfold st4; rw [seg_length]; omega
theorem stF_getD {h i k : Nat} {r : List Int} (hk : k < r.length) : (stF h i r).getD k 0 = if i ≤ k ∧ k / h % 2 = 0 then (r.getD k 0 + r.getD (k + h) 0) % 2 else r.getD k 0 := by
  unfold stF; rw [seg_getD _ hk]
theorem st4_getD {h i k q : Nat} {r : List Int} (hq : q < r.length) : (st4 h i k r).getD q 0 = if k ≤ q ∧ q < i + h then (r.getD q 0 + r.getD (q + h) 0) % 2 else r.getD q 0 := by
  unfold st4; rw [seg_getD _ hq]
theorem getD_set {r : List Int} {k q : Nat} {v : Int} (hk : k < r.length) : (r.set k v).getD q 0 = if k = q then v else r.getD q 0 := by
  rw [List.getD_eq_getElem?_getD, List.getElem?_set]
  by_cases e : k = q
  · rw [if_pos e, if_pos e, if_pos hk]; rfl
  · rw [if_neg e, if_neg e, ← List.getD_eq_getElem?_getD]
theorem getD_none {r : List Int} {k : Nat} (h : r.length ≤ k) : r.getD k 0 = 0 := by
  rw [List.getD_eq_getElem?_getD, List.getElem?_eq_none h]; rfl
theorem st4_step {h i k : Nat} {r : List Int} (hh : 1 ≤ h) (hk : k < i + h) (hr : k < r.length) : st4 h i (k + 1) (r.set k ((r.getD k 0 + r.getD (k + h) 0) % 2)) = st4 h i k r := by
  refine list_ext (by simp [st4_length]) fun q hq => ?_
  rw [st4_length, List.length_set] at hq
  rw [st4_getD (by simpa using hq), st4_getD hq, getD_set hr, getD_set hr]
  by_cases h1 : k = q
  · subst h1
    rw [if_neg (by omega), if_pos rfl, if_pos ⟨Nat.le_refl _, hk⟩]
  · rw [if_neg h1]
    by_cases h2 : k ≤ q ∧ q < i + h
    · rw [if_pos h2, if_pos (show k + 1 ≤ q ∧ q < i + h by omega), if_neg (show ¬ k = q + h by omega)]
    · rw [if_neg h2, if_neg (show ¬ (k + 1 ≤ q ∧ q < i + h) by omega)]
theorem st4_end {h i k : Nat} {r : List Int} (hk : i + h ≤ k) : st4 h i k r = r := by
  refine list_ext (by simp [st4_length]) fun q hq => ?_
  rw [st4_length] at hq
  rw [st4_getD hq, if_neg (by omega)]
theorem stF_step {h c : Nat} {r : List Int} (hh : 1 ≤ h) : stF h (2 * h * c + 2 * h) (st4 h (2 * h * c) (2 * h * c) r) = stF h (2 * h * c) r := by
  refine list_ext (by simp [stF_length, st4_length]) fun q hq => ?_
  rw [stF_length, st4_length] at hq
  rw [stF_getD (by rw [st4_length]; exact hq), stF_getD hq, st4_getD hq]
  have hdiv : ∀ q, 2 * h * c ≤ q → q < 2 * h * c + 2 * h → (q / h % 2 = 0 ↔ q < 2 * h * c + h) := by
    intro q h1 h2
    obtain ⟨d, rfl⟩ : ∃ d, q = h * (2 * c) + d := ⟨q - 2 * h * c, by rw [show h * (2 * c) = 2 * h * c from by simp only [Nat.mul_comm, Nat.mul_left_comm]]; omega⟩
    have e : h * (2 * c) = 2 * h * c := by simp only [Nat.mul_comm, Nat.mul_left_comm]
    rw [e] at h1 h2
    rw [Nat.mul_add_div (by omega), e]
    by_cases hd : d < h
    · rw [Nat.div_eq_of_lt hd]; omega
    · have : d / h = 1 := by
        rw [Nat.div_eq_iff (by omega)]
        omega
      rw [this]; omega
  by_cases h1 : 2 * h * c + 2 * h ≤ q
  · rw [if_neg (show ¬ (2 * h * c ≤ q ∧ q < 2 * h * c + h) by omega)]
    by_cases h2 : q / h % 2 = 0
    · rw [if_pos ⟨h1, h2⟩, if_pos ⟨by omega, h2⟩]
      by_cases h3 : q + h < r.length
      · rw [st4_getD h3, if_neg (by omega)]
      · rw [getD_none (r := st4 h (2 * h * c) (2 * h * c) r) (by rw [st4_length]; omega), getD_none (r := r) (k := q + h) (by omega)]
    · rw [if_neg (fun h => h2 h.2), if_neg (fun h => h2 h.2)]
  · rw [if_neg (fun h => h1 h.1)]
    by_cases h2 : 2 * h * c ≤ q
    · have hd := hdiv q h2 (by omega)
      by_cases h3 : q < 2 * h * c + h
      · rw [if_pos ⟨h2, h3⟩, if_pos ⟨h2, hd.2 h3⟩]
      · rw [if_neg (fun h => h3 h.2), if_neg (fun h => h3 (hd.1 h.2))]
    · rw [if_neg (fun h => h2 h.1), if_neg (fun h => h2 h.1)]
theorem stF_end {h i : Nat} {r : List Int} (hi : r.length ≤ i) : stF h i r = r := by
  refine list_ext (by simp [stF_length]) fun q hq => ?_
  rw [stF_length] at hq
  rw [stF_getD hq, if_neg (by omega)]
/-- A stage acts on halves apart. -/
theorem stF_app {h : Nat} {a b : List Int} (hh : 1 ≤ h) (L : Nat) (ha : a.length = 2 * h * L) : stF h 0 (a ++ b) = stF h 0 a ++ stF h 0 b := by
  refine list_ext (by simp [stF_length]) fun q hq => ?_
  rw [stF_length] at hq
  have e2 : h * (2 * L) = 2 * h * L := by simp only [Nat.mul_comm, Nat.mul_left_comm]
  rw [stF_getD hq]
  by_cases h1 : q < a.length
  · rw [getD_app_left (a := stF h 0 a) (by rw [stF_length]; exact h1), stF_getD h1, getD_app_left h1]
    by_cases h2 : q / h % 2 = 0
    · rw [if_pos ⟨Nat.zero_le _, h2⟩, if_pos ⟨Nat.zero_le _, h2⟩]
      have : q + h < a.length := by
        have h3 : q / h < 2 * L := by rw [Nat.div_lt_iff_lt_mul (by omega), Nat.mul_comm, e2, ← ha]; exact h1
        have h4 : q / h + 1 < 2 * L := by omega
        have h5 := Nat.div_add_mod q h
        have h6 := Nat.mod_lt q (show 0 < h by omega)
        have h7 : h * (q / h + 2) ≤ h * (2 * L) := Nat.mul_le_mul_left _ (by omega)
        rw [Nat.mul_add, e2] at h7
        omega
      rw [getD_app_left this]
    · rw [if_neg (fun h => h2 h.2), if_neg (fun h => h2 h.2)]
  · rw [List.length_append] at hq
    obtain ⟨d, rfl⟩ : ∃ d, q = a.length + d := ⟨q - a.length, by omega⟩
    rw [getD_app_right (a := stF h 0 a) (by rw [stF_length]; omega), stF_length, getD_app_right (a := a) (k := a.length + d) (by omega), getD_app_right (a := a) (k := a.length + d + h) (by omega), Nat.add_sub_cancel_left, stF_getD (by omega), show a.length + d + h - a.length = d + h from by omega]
    have : (a.length + d) / h % 2 = d / h % 2 := by
      rw [ha, ← e2, Nat.mul_add_div (by omega)]; omega
    rw [this]
    by_cases h2 : d / h % 2 = 0
    · rw [if_pos ⟨Nat.zero_le _, h2⟩, if_pos ⟨Nat.zero_le _, h2⟩]
    · rw [if_neg (fun h => h2 h.2), if_neg (fun h => h2 h.2)]
theorem stagesJ_length : ∀ (d j : Nat) (b : List Int), (stagesJ d j b).length = b.length
  | 0, _, _ => rfl
  | d + 1, j, b => by simp only [stagesJ]; rw [stagesJ_length, stF_length]
theorem stagesJ_app : ∀ (d j m : Nat) (a b : List Int), j + d ≤ m → a.length = 2 ^ m → stagesJ d j (a ++ b) = stagesJ d j a ++ stagesJ d j b
  | 0, _, _, _, _, _, _ => rfl
  | d + 1, j, m, a, b, hm, ha => by
    simp only [stagesJ]
    obtain ⟨e, he⟩ : ∃ e, m = j + 1 + e := ⟨m - (j + 1), by omega⟩
    rw [stF_app (Nat.two_pow_pos j) (2 ^ e) (by rw [ha, he, Nat.pow_add, Nat.pow_succ, Nat.mul_comm (2 ^ j) 2])]
    exact stagesJ_app d (j + 1) m _ _ (by omega) (by rw [stF_length, ha])
theorem stagesJ_last : ∀ (d j : Nat) (b : List Int), stagesJ (d + 1) j b = stF (2 ^ (j + d)) 0 (stagesJ d j b)
  | 0, _, _ => rfl
  | d + 1, j, b => by
    have := stagesJ_last d (j + 1) (stF (2 ^ j) 0 b)
    simp only [stagesJ] at this ⊢
    rw [this]
    congr 2
    omega
theorem stF_half {h : Nat} {x y : List Int} (hx : x.length = h) (hy : y.length = h) (hh : 1 ≤ h) : stF h 0 (x ++ y) = addL x y ++ y := by
  refine list_ext (by simp [stF_length, addL_length]) fun q hq => ?_
  rw [stF_length, List.length_append] at hq
  rw [stF_getD (by rw [List.length_append]; exact hq)]
  by_cases h1 : q < h
  · rw [if_pos ⟨Nat.zero_le _, by rw [Nat.div_eq_of_lt h1]⟩, getD_app_left (by omega), getD_app_right (by omega), getD_app_left (by rw [addL_length]; omega), addL_getD (by omega), show q + h - x.length = q from by omega]
  · have : q / h = 1 := by
      rw [Nat.div_eq_iff (by omega)]; omega
    rw [if_neg (by rw [this]; omega), getD_app_right (by omega), getD_app_right (by rw [addL_length]; omega), addL_length]
theorem stages_turn : ∀ (m : Nat) (b : List Int), b.length = 2 ^ m → stagesJ m 0 b = turnL m b
  | 0, _, _ => rfl
  | m + 1, b, hb => by
    rw [Nat.pow_succ] at hb
    have la : (b.take (2 ^ m)).length = 2 ^ m := by rw [List.length_take]; omega
    have da : (b.drop (2 ^ m)).length = 2 ^ m := by rw [List.length_drop]; omega
    rw [stagesJ_last, Nat.zero_add]
    conv => lhs; rw [← List.take_append_drop (2 ^ m) b]
    rw [stagesJ_app m 0 m _ _ (by omega) la, stages_turn m _ la, stages_turn m _ da]
    rw [stF_half (turnL_length m _ la) (turnL_length m _ da) (Nat.two_pow_pos m)]
    rfl
end Go.Spec
namespace Go.Spec
open Go Go.Lift
def X_keep_good_0_0 (r0 : (List Int)) (K : AExit → St → Prop) : Prop := K (.exit 0) ⟨un 5 ++ (.s (.sl 0) :: (un 21)), [(0, .row (.int .u8) r0)], 1⟩
def X_polar_turn_0_0 (r0 : (List Int)) (K : AExit → St → Prop) : Prop := K (.exit 0) ⟨un 39, [(0, .row (.int .u8) r0)], 2⟩
def X_polar_turn_2_0 (t2 : Int) (r0 : (List Int)) (K : AExit → St → Prop) : Prop := K (.exit 2) ⟨.s (.sl 0) :: (un 1 ++ (.s (.val (.int .i64) t2) :: (un 36))), [(0, .row (.int .u8) r0)], 2⟩
def X_polar_turn_4_0 (t2 : Int) (t3 : Int) (r0 : (List Int)) (K : AExit → St → Prop) : Prop := K (.exit 4) ⟨.s (.sl 0) :: (un 1 ++ (.s (.val (.int .i64) t2) :: (.s (.val (.int .i64) t3) :: (un 35)))), [(0, .row (.int .u8) r0)], 2⟩
end Go.Spec
/- What the functions answer: the transform by halves. -/
namespace Go.Spec
open Go Go.Lift
def goodL (b : List Int) (most : Nat) : List Int := (b.take most).map (· % 2)
def S_keep_good : Summ := { par := [.v (.ro (.int .u8)), .v (.int .i64)], res := [.row (.int .u8)], esc := false, pre := fun x => (x.1.length : Int) ≤ big ∧ (∀ y ∈ x.1, 0 ≤ y) ∧ 0 ≤ x.2.1 ∧ x.2.1 ≤ 100000, fn := fun x => ((goodL x.1 x.2.1.toNat, ()), ((), (), ())) }
def p_keep_good_0 (t0 : List Int) (t1 t6 : Int) (r0 : List Int) : Prop := (t0.length : Int) ≤ big ∧ (∀ y ∈ t0, 0 ≤ y) ∧ 0 ≤ t6 ∧ t6 ≤ t1 ∧ t6 ≤ t0.length ∧ t1 ≤ 100000 ∧ (r0.length : Int) = t6
def m_keep_good_0 (t0 : List Int) (_t1 t6 : Int) (_r0 : List Int) : Nat := (t0.length - t6).toNat
def o_keep_good_0 (t0 : List Int) (t1 t6 : Int) (r0 : List Int) (K : AExit → St → Prop) : Prop := X_keep_good_0_0 (r0 ++ goodL (t0.drop t6.toNat) (t1 - t6).toNat) K
def S_polar_power : Summ := { par := [.v (.int .i64)], res := [.v .bool], esc := false, pre := fun _ => True, fn := fun x => ((powB x.1, ()), ((), ())) }
def S_slices_Clone_byte_byte : Summ := { par := [.v (.ro (.int .u8))], res := [.row (.int .u8)], esc := false, pre := fun x => (x.1.length : Int) ≤ 140737488355328, fn := fun x => ((x.1, ()), ((), ())) }
def S_polar_turn : Summ := { par := [.row (.int .u8)], res := [], esc := false, pre := fun x => Bits x.1 ∧ ∃ m, m ≤ 9 ∧ x.1.length = 2 ^ m, fn := fun x => ((), (turnL (Nat.log2 x.1.length) x.1, ())) }
def p_polar_turn_0 (t2 : Int) (r0 : List Int) : Prop := Bits r0 ∧ ∃ j m, m ≤ 9 ∧ j ≤ m ∧ t2 = ((2 ^ j : Nat) : Int) ∧ r0.length = 2 ^ m
def m_polar_turn_0 (t2 : Int) (r0 : List Int) : Nat := (r0.length - t2).toNat
def o_polar_turn_0 (t2 : Int) (r0 : List Int) (K : AExit → St → Prop) : Prop := ∀ j m, t2 = ((2 ^ j : Nat) : Int) → j ≤ m → r0.length = 2 ^ m → X_polar_turn_0_0 (stagesJ (m - j) j r0) K
def p_polar_turn_2 (t2 t3 : Int) (r0 : List Int) : Prop := Bits r0 ∧ ∃ h c L : Nat, t2 = h ∧ 1 ≤ h ∧ t3 = ((2 * h * c : Nat) : Int) ∧ r0.length = 2 * h * L ∧ c ≤ L ∧ r0.length ≤ 512
def m_polar_turn_2 (_t2 t3 : Int) (r0 : List Int) : Nat := (r0.length - t3).toNat
def o_polar_turn_2 (t2 t3 : Int) (r0 : List Int) (K : AExit → St → Prop) : Prop := X_polar_turn_2_0 t2 (stF t2.toNat t3.toNat r0) K
def p_polar_turn_4 (t2 t3 t4 : Int) (r0 : List Int) : Prop := Bits r0 ∧ ∃ h i k : Nat, t2 = h ∧ 1 ≤ h ∧ t3 = i ∧ t4 = k ∧ i ≤ k ∧ k ≤ i + h ∧ i + 2 * h ≤ r0.length ∧ r0.length ≤ 512
def m_polar_turn_4 (t2 t3 t4 : Int) (_r0 : List Int) : Nat := (t3 + t2 - t4).toNat
def o_polar_turn_4 (t2 t3 t4 : Int) (r0 : List Int) (K : AExit → St → Prop) : Prop := X_polar_turn_4_0 t2 t3 (st4 t2.toNat t3.toNat t4.toNat r0) K
def turnErr (b : List Int) : Int := if bitsErr b = 0 then (if powB b.length then 0 else 1) else bitsErr b
def turnOf (b : List Int) : List Int := if turnErr b = 0 then turnL (Nat.log2 b.length) b else []
def S_polar_Turn : Summ := { par := [.v (.ro (.int .u8))], res := [.row (.int .u8), .v (.int .i64)], esc := false, pre := fun x => (x.1.length : Int) ≤ big ∧ ∀ y ∈ x.1, 0 ≤ y, fn := fun x => ((turnOf x.1, turnErr x.1, ()), ((), ())) }
def S_keep_PolarTwice : Summ := { par := [.v (.ro (.int .u8)), .v (.ro (.int .u8))], res := [.v .bool], esc := false, pre := fun x => ((x.1.length : Int) ≤ big ∧ ∀ y ∈ x.1, 0 ≤ y) ∧ ((x.2.1.length : Int) ≤ big ∧ ∀ y ∈ x.2.1, 0 ≤ y), fn := fun _ => ((true, ()), ((), (), ())) }
end Go.Spec
