/- Lines for the functions of this seat; merged from texts of their own. -/
import Derived.Test.YtfjoackkcflbkaaE4
import Derived.Test.YtfjoackkcflbkaaLF
set_option linter.unusedVariables false
set_option linter.unusedSimpArgs false
/- Plain facts: the best way through the code with a memory. -/
namespace Go.Spec
open Go Go.Lift
def sgS (c x : Int) : Int := if c = 1 then -x else x
def scp : List Int → List Int → Int
  | [], _ => 0
  | c :: cs, ss => sgS c (ss.headD 0) + scp cs ss.tail
def Softs (s : List Int) : Prop := ∀ x ∈ s, -100000 ≤ x ∧ x ≤ 100000
theorem softB_spec {s : List Int} : softB s = true ↔ Softs s := by
  unfold softB Softs
  rw [List.all_eq_true]
  simp only [Bool.and_eq_true, decide_eq_true_eq]
theorem Softs.tail {s : List Int} (h : Softs s) : Softs s.tail := fun x hx => h x (List.mem_of_mem_tail hx)
theorem Softs.drop {s : List Int} (h : Softs s) (n : Nat) : Softs (s.drop n) := fun x hx => h x (List.mem_of_mem_drop hx)
theorem Softs.head {s : List Int} (h : Softs s) : -100000 ≤ s.headD 0 ∧ s.headD 0 ≤ 100000 := by
  cases s with
  | nil => simp
  | cons x xs => exact h x (by simp)
theorem scp_bd : ∀ (c s : List Int), Softs s → -(100000 * (c.length : Int)) ≤ scp c s ∧ scp c s ≤ 100000 * (c.length : Int)
  | [], _, _ => by simp [scp]
  | c :: cs, s, h => by
    have ih := scp_bd cs s.tail h.tail
    have hh := h.head
    simp only [scp, sgS, List.length_cons]
    split <;> omega
theorem scoreF_scp : ∀ (c s : List Int) (n : Int), Softs s → -1000000000000 ≤ n - 100000 * (c.length : Int) → n + 100000 * (c.length : Int) ≤ 1000000000000 → scoreF n c s = n + scp c s
  | [], _, n, _, _, _ => by simp [scoreF, scp]
  | c :: cs, s, n, h, h1, h2 => by
    have hh := h.head
    simp only [List.length_cons] at h1 h2
    have e : IntKind.i64.wrap (if c = 1 then n - s.headD 0 else n + s.headD 0) = n + sgS c (s.headD 0) := by
      unfold sgS
      split
      · rw [i64w (by omega)]; omega
      · rw [i64w (by omega)]
    simp only [scoreF]
    have hb : -100000 ≤ sgS c (s.headD 0) ∧ sgS c (s.headD 0) ≤ 100000 := by unfold sgS; split <;> omega
    rw [e, scoreF_scp cs s.tail _ h.tail (by omega) (by omega), scp]
    omega
theorem scp_app : ∀ (a b s : List Int), scp (a ++ b) s = scp a s + scp b (s.drop a.length)
  | [], b, s => by simp [scp]
  | c :: cs, b, s => by
    simp only [List.cons_append, scp, List.length_cons]
    rw [scp_app cs b s.tail]
    have : s.tail.drop cs.length = s.drop (cs.length + 1) := by cases s <;> simp
    rw [this]; omega
/-- the gain of a step -/
def gn (soft : List Int) (i r : Nat) : Int := scp (thr r) (soft.drop (3 * i))
theorem thr_length (r : Int) : (thr r).length = 3 := rfl
theorem gn_bd {soft : List Int} (h : Softs soft) (i r : Nat) : -300000 ≤ gn soft i r ∧ gn soft i r ≤ 300000 := by
  have := scp_bd (thr r) (soft.drop (3 * i)) (h.drop _)
  rw [thr_length] at this
  unfold gn; omega
def rg (s : Nat) (x : Int) : Nat := 64 * x.toNat + s
def GL (soft : List Int) : Nat → Nat → List Int → Int
  | _, _, [] => 0
  | i, s, x :: xs => gn soft i (rg s x) + GL soft (i + 1) (rg s x / 2) xs
def FS : Nat → List Int → Nat
  | s, [] => s
  | s, x :: xs => FS (rg s x / 2) xs
theorem GL_bd {soft : List Int} (h : Softs soft) : ∀ (l : List Int) (i s : Nat), -(300000 * (l.length : Int)) ≤ GL soft i s l ∧ GL soft i s l ≤ 300000 * (l.length : Int)
  | [], _, _ => by simp [GL]
  | x :: xs, i, s => by
    have ih := GL_bd h xs (i + 1) (rg s x / 2)
    have hg := gn_bd h i (rg s x)
    simp only [GL, List.length_cons]
    omega
theorem GL_app (soft : List Int) : ∀ (a b : List Int) (i s : Nat), GL soft i s (a ++ b) = GL soft i s a + GL soft (i + a.length) (FS s a) b
  | [], b, i, s => by simp [GL, FS]
  | x :: xs, b, i, s => by
    simp only [List.cons_append, GL, FS, List.length_cons]
    rw [GL_app soft xs b (i + 1), show i + 1 + xs.length = i + (xs.length + 1) by omega]
    omega
theorem FS_app : ∀ (a b : List Int) (s : Nat), FS s (a ++ b) = FS (FS s a) b
  | [], b, s => rfl
  | x :: xs, b, s => by simp only [List.cons_append, FS]; exact FS_app xs b _
theorem rg_lt {s : Nat} {x : Int} (hs : s < 64) (hx : x = 0 ∨ x = 1) : rg s x < 128 ∧ rg s x / 2 < 64 := by
  unfold rg
  rcases hx with rfl | rfl <;> simp <;> omega
theorem FS_lt : ∀ (l : List Int) (s : Nat), Bits l → s < 64 → FS s l < 64
  | [], s, _, h => h
  | x :: xs, s, hb, h => FS_lt xs _ (fun y hy => hb y (List.mem_cons_of_mem _ hy)) (rg_lt h (hb x (by simp))).2
def zs (n : Nat) : List Int := List.replicate n 0
theorem zs_succ (n : Nat) : zs (n + 1) = 0 :: zs n := rfl
theorem zs_bits (n : Nat) : Bits (zs n) := fun x hx => .inl (List.eq_of_mem_replicate hx)
theorem zs_length (n : Nat) : (zs n).length = n := List.length_replicate
theorem rg_zero (s : Nat) : rg s 0 = s := by simp [rg]
theorem FS_zs : ∀ (n s : Nat), FS s (zs n) = s / 2 ^ n
  | 0, s => by simp [zs, FS]
  | n + 1, s => by
    rw [zs_succ, FS, rg_zero, FS_zs n, Nat.pow_succ, Nat.mul_comm, Nat.div_div_eq_div_mul]
/-- what bits score -/
theorem enc_GL (soft : List Int) : ∀ (l : List Int) (r i : Nat), Bits l → scp (encF r l) (soft.drop (3 * i)) = GL soft i (r / 2) l
  | [], _, _, _ => by simp [encF, scp, GL]
  | x :: xs, r, i, hb => by
    have hx := hb x (by simp)
    have e : ((r : Int) / 2 + 64 * x) = ((rg (r / 2) x : Nat) : Int) := by
      unfold rg
      rcases hx with rfl | rfl <;> simp <;> omega
    have ih := enc_GL soft xs (rg (r / 2) x) (i + 1) (fun y hy => hb y (List.mem_cons_of_mem _ hy))
    rw [encF, e, scp_app, thr_length, List.drop_drop, GL, show 3 * i + 3 = 3 * (i + 1) by omega, ih]
    rfl
/-! the order of bits -/
def ahead : List Int → List Int → Bool
  | x :: a, y :: b => if x = y then ahead a b else decide (x < y)
  | _, _ => false
theorem ahead_irr : ∀ a : List Int, ahead a a = false
  | [] => rfl
  | x :: a => by simp [ahead, ahead_irr a]
theorem ahead_anti : ∀ (a b : List Int), a.length = b.length → ahead a b = false → ahead b a = false → a = b
  | [], [], _, _, _ => rfl
  | [], y :: b, h, _, _ => by cases h
  | x :: a, [], h, _, _ => by cases h
  | x :: a, y :: b, h, h1, h2 => by
    simp only [ahead] at h1 h2
    by_cases e : x = y
    · subst e
      simp only [if_true] at h1 h2
      rw [ahead_anti a b (by simpa using h) h1 h2]
    · rw [if_neg e] at h1
      rw [if_neg (fun e' => e e'.symm)] at h2
      simp only [decide_eq_false_iff_not] at h1 h2
      omega
theorem ahead_trans : ∀ (a b c : List Int), a.length = b.length → b.length = c.length → ahead a b = true → ahead b c = true → ahead a c = true
  | [], [], _, _, _, h, _ => by simp [ahead] at h
  | [], y :: b, _, h, _, _, _ => by cases h
  | x :: a, [], _, h, _, _, _ => by cases h
  | x :: a, y :: b, [], _, h, _, _ => by cases h
  | x :: a, y :: b, z :: c, h, h', h1, h2 => by
    simp only [ahead] at h1 h2 ⊢
    by_cases e : x = y
    · subst e
      simp only [if_true] at h1
      split
      · rename_i e2
        rw [if_pos e2] at h2
        exact ahead_trans a b c (by simpa using h) (by simpa using h') h1 h2
      · rename_i e2
        rw [if_neg e2] at h2; exact h2
    · rw [if_neg e] at h1
      by_cases e2 : y = z
      · subst e2; rw [if_neg e]; exact h1
      · rw [if_neg e2] at h2
        simp only [decide_eq_true_eq] at h1 h2
        rw [if_neg (by omega)]
        simp only [decide_eq_true_eq]; omega
theorem ahead_total (a b : List Int) (h : a.length = b.length) : ahead a b = true ∨ ahead b a = true ∨ a = b := by
  cases h1 : ahead a b
  · cases h2 : ahead b a
    · exact .inr (.inr (ahead_anti a b h h1 h2))
    · exact .inr (.inl rfl)
  · exact .inl rfl
theorem nahead_trans (a b c : List Int) (h : a.length = b.length) (h' : b.length = c.length) (h1 : ahead a b = false) (h2 : ahead b c = false) : ahead a c = false := by
  cases hc : ahead a c
  · rfl
  · rcases ahead_total b a h.symm with h3 | h3 | h3
    · have := ahead_trans b a c h.symm (h.trans h') h3 hc
      rw [h2] at this; cases this
    · rw [h1] at h3; cases h3
    · subst h3; rw [h2] at hc; cases hc
theorem ahead_snoc : ∀ (a b : List Int) (x : Int), a.length = b.length → ahead (a ++ [x]) (b ++ [x]) = ahead a b
  | [], [], x, _ => by simp [ahead]
  | [], y :: b, _, h => by cases h
  | y :: a, [], _, h => by cases h
  | y :: a, z :: b, x, h => by
    simp only [List.cons_append, ahead]
    rw [ahead_snoc a b x (by simpa using h)]
/-! the best of all ways on -/
def Bst (soft : List Int) (n : Nat) : Nat → Nat → Int × List Int
  | 0, s => (GL soft n s (zs 6), [])
  | m + 1, s =>
    if (Bst soft n m (rg s 0 / 2)).1 + gn soft (n - (m + 1)) (rg s 0) < (Bst soft n m (rg s 1 / 2)).1 + gn soft (n - (m + 1)) (rg s 1)
    then ((Bst soft n m (rg s 1 / 2)).1 + gn soft (n - (m + 1)) (rg s 1), 1 :: (Bst soft n m (rg s 1 / 2)).2)
    else ((Bst soft n m (rg s 0 / 2)).1 + gn soft (n - (m + 1)) (rg s 0), 0 :: (Bst soft n m (rg s 0 / 2)).2)
def IsBest (soft : List Int) (n m s : Nat) (v : Int) (u : List Int) : Prop :=
  Bits u ∧ u.length = m ∧ GL soft (n - m) s (u ++ zs 6) = v ∧ ∀ u', Bits u' → u'.length = m → GL soft (n - m) s (u' ++ zs 6) < v ∨ (GL soft (n - m) s (u' ++ zs 6) = v ∧ ahead u' u = false)
theorem Bst_best (soft : List Int) (n : Nat) : ∀ (m s : Nat), m ≤ n → IsBest soft n m s (Bst soft n m s).1 (Bst soft n m s).2
  | 0, s, _ => ⟨fun x hx => (by cases hx), rfl, by simp [Bst], fun u' _ hl => by
      have : u' = [] := List.length_eq_zero_iff.1 hl
      subst this
      exact .inr ⟨by simp [Bst], rfl⟩⟩
  | m + 1, s, hm => by
    obtain ⟨a1, a2, a3, a4⟩ := Bst_best soft n m (rg s 0 / 2) (by omega)
    obtain ⟨b1, b2, b3, b4⟩ := Bst_best soft n m (rg s 1 / 2) (by omega)
    have e : n - (m + 1) + 1 = n - m := by omega
    have step : ∀ (x : Int) (u : List Int), GL soft (n - (m + 1)) s ((x :: u) ++ zs 6) = gn soft (n - (m + 1)) (rg s x) + GL soft (n - m) (rg s x / 2) (u ++ zs 6) := by
      intro x u
      rw [List.cons_append, GL, e]
    have split : ∀ u' : List Int, Bits u' → u'.length = m + 1 → ∃ x u, u' = x :: u ∧ (x = 0 ∨ x = 1) ∧ Bits u ∧ u.length = m := by
      intro u' hb hl
      cases u' with
      | nil => cases hl
      | cons x u => exact ⟨x, u, rfl, hb x (by simp), fun y hy => hb y (List.mem_cons_of_mem _ hy), by simpa using hl⟩
    rw [Bst]
    by_cases hlt : (Bst soft n m (rg s 0 / 2)).1 + gn soft (n - (m + 1)) (rg s 0) < (Bst soft n m (rg s 1 / 2)).1 + gn soft (n - (m + 1)) (rg s 1)
    · rw [if_pos hlt]
      refine ⟨fun x hx => ?_, by simp [b2], by rw [step, b3]; omega, fun u' hb hl => ?_⟩
      · rcases List.mem_cons.1 hx with rfl | hx
        · exact .inr rfl
        · exact b1 x hx
      · obtain ⟨x, u, rfl, hx, hu, hul⟩ := split u' hb hl
        rw [step]
        rcases hx with rfl | rfl
        · left
          rcases a4 u hu hul with h | ⟨h, _⟩ <;> omega
        · rcases b4 u hu hul with h | ⟨h, h'⟩
          · left; omega
          · right; exact ⟨by omega, by simp [ahead, h']⟩
    · rw [if_neg hlt]
      refine ⟨fun x hx => ?_, by simp [a2], by rw [step, a3]; omega, fun u' hb hl => ?_⟩
      · rcases List.mem_cons.1 hx with rfl | hx
        · exact .inl rfl
        · exact a1 x hx
      · obtain ⟨x, u, rfl, hx, hu, hul⟩ := split u' hb hl
        rw [step]
        rcases hx with rfl | rfl
        · rcases a4 u hu hul with h | ⟨h, h'⟩
          · left; omega
          · right; exact ⟨by omega, by simp [ahead, h']⟩
        · rcases b4 u hu hul with h | ⟨h, _⟩
          · left; omega
          · by_cases hq : gn soft (n - (m + 1)) (rg s 1) + GL soft (n - m) (rg s 1 / 2) (u ++ zs 6) < (Bst soft n m (rg s 0 / 2)).1 + gn soft (n - (m + 1)) (rg s 0)
            · exact .inl hq
            · right; exact ⟨by omega, by simp [ahead]⟩
theorem best_unique {soft : List Int} {n m s : Nat} {v w : Int} {u t : List Int} (h : IsBest soft n m s v u) (k : IsBest soft n m s w t) : v = w ∧ u = t := by
  obtain ⟨a1, a2, a3, a4⟩ := h
  obtain ⟨b1, b2, b3, b4⟩ := k
  rcases a4 t b1 b2 with h1 | ⟨h1, h2⟩ <;> rcases b4 u a1 a2 with k1 | ⟨k1, k2⟩
  · omega
  · omega
  · omega
  · exact ⟨by omega, ahead_anti u t (by omega) k2 h2⟩
theorem Bst_bd {soft : List Int} (h : Softs soft) {n m s : Nat} (hm : m ≤ n) : -(300000 * ((m : Int) + 6)) ≤ (Bst soft n m s).1 ∧ (Bst soft n m s).1 ≤ 300000 * ((m : Int) + 6) := by
  obtain ⟨_, h2, h3, _⟩ := Bst_best soft n m s hm
  have := GL_bd h ((Bst soft n m s).2 ++ zs 6) (n - m) s
  rw [h3, List.length_append, h2, zs_length] at this
  omega
/-! as the program has it: from the end, none where there is no way -/
def nn : Int := -1152921504606846976
/-- over the last j steps of n and six -/
def Vt (soft : List Int) (n j s : Nat) : Int :=
  if 6 ≤ j then (Bst soft n (j - 6) s).1 else if s < 2 ^ j then GL soft (n + 6 - j) s (zs j) else nn
theorem Vt_bd {soft : List Int} (h : Softs soft) {n j s : Nat} (hj : j ≤ n + 6) : Vt soft n j s = nn ∨ (-(300000 * (j : Int)) ≤ Vt soft n j s ∧ Vt soft n j s ≤ 300000 * (j : Int)) := by
  unfold Vt
  split
  · rename_i h6
    have := Bst_bd (s := s) h (show j - 6 ≤ n by omega)
    right; omega
  · split
    · have := GL_bd h (zs j) (n + 6 - j) s
      rw [zs_length] at this
      exact .inr this
    · exact .inl rfl
theorem Vt_zero (soft : List Int) (n s : Nat) : Vt soft n 0 s = if s = 0 then 0 else nn := by
  unfold Vt
  rw [if_neg (by decide)]
  by_cases h : s = 0
  · subst h; simp [zs, GL]
  · rw [if_neg (by simpa using h), if_neg h]
/-- one more step, a bit 0 first -/
def Va (soft : List Int) (n j s : Nat) (x : Int) (a : Int) : Int := if Vt soft n j (rg s x / 2) > nn then lesser true a (Vt soft n j (rg s x / 2) + gn soft (n + 6 - (j + 1)) (rg s x)) else a
theorem Vt_succ {soft : List Int} (hs : Softs soft) {n j s : Nat} (hn : n ≤ 400) (hj : j < n + 6) (h64 : s < 64) : Vt soft n (j + 1) s = if n + 6 - (j + 1) < n then Va soft n j s 1 (Va soft n j s 0 nn) else Va soft n j s 0 nn := by
  have hb0 := Vt_bd (s := rg s 0 / 2) hs (show j ≤ n + 6 by omega)
  have hb1 := Vt_bd (s := rg s 1 / 2) hs (show j ≤ n + 6 by omega)
  have g0 := gn_bd hs (n + 6 - (j + 1)) (rg s 0)
  have g1 := gn_bd hs (n + 6 - (j + 1)) (rg s 1)
  unfold Va
  by_cases h6 : 6 ≤ j
  · have e : ∀ t, Vt soft n j t = (Bst soft n (j - 6) t).1 := fun t => by unfold Vt; rw [if_pos h6]
    have c0 := Bst_bd (s := rg s 0 / 2) hs (show j - 6 ≤ n by omega)
    have c1 := Bst_bd (s := rg s 1 / 2) hs (show j - 6 ≤ n by omega)
    rw [if_pos (by omega), e, e]
    have e1 : Vt soft n (j + 1) s = (Bst soft n (j - 6 + 1) s).1 := by unfold Vt; rw [if_pos (by omega), show j + 1 - 6 = j - 6 + 1 by omega]
    rw [e1, Bst, show n - (j - 6 + 1) = n + 6 - (j + 1) by omega]
    have k0 : (Bst soft n (j - 6) (rg s 0 / 2)).1 > nn := by unfold nn; omega
    have k1 : (Bst soft n (j - 6) (rg s 1 / 2)).1 > nn := by unfold nn; omega
    rw [if_pos k0, if_pos k1]
    have l0 : lesser true nn ((Bst soft n (j - 6) (rg s 0 / 2)).1 + gn soft (n + 6 - (j + 1)) (rg s 0)) = (Bst soft n (j - 6) (rg s 0 / 2)).1 + gn soft (n + 6 - (j + 1)) (rg s 0) := by
      show (if _ > nn then _ else nn) = _
      rw [if_pos (by unfold nn; omega)]
    rw [l0]
    show _ = (if _ > _ then _ else _)
    by_cases hlt : (Bst soft n (j - 6) (rg s 0 / 2)).1 + gn soft (n + 6 - (j + 1)) (rg s 0) < (Bst soft n (j - 6) (rg s 1 / 2)).1 + gn soft (n + 6 - (j + 1)) (rg s 1)
    · rw [if_pos hlt, if_pos hlt]
    · rw [if_neg hlt, if_neg hlt]
  · rw [if_neg (by omega)]
    have hr : rg s 0 = s := rg_zero s
    rw [hr] at hb0 g0 ⊢
    have e : ∀ t, Vt soft n j t = if t < 2 ^ j then GL soft (n + 6 - j) t (zs j) else nn := fun t => by unfold Vt; rw [if_neg h6]
    have e1 : Vt soft n (j + 1) s = if s < 2 ^ (j + 1) then GL soft (n + 6 - (j + 1)) s (zs (j + 1)) else nn := by
      by_cases h5 : j = 5
      · subst h5
        unfold Vt
        rw [if_pos (by decide), if_pos (by omega)]; rfl
      · unfold Vt; rw [if_neg (by omega)]
    have hp : 2 ^ (j + 1) = 2 ^ j * 2 := Nat.pow_succ 2 j
    rw [e1]
    by_cases hs2 : s / 2 < 2 ^ j
    · have hv : Vt soft n j (s / 2) = GL soft (n + 6 - j) (s / 2) (zs j) := by rw [e, if_pos hs2]
      have hgb := GL_bd hs (zs j) (n + 6 - j) (s / 2)
      rw [zs_length] at hgb
      rw [if_pos (by omega), hv, if_pos (by unfold nn; omega), zs_succ, GL, rg_zero, show n + 6 - (j + 1) + 1 = n + 6 - j by omega]
      show _ = (if _ > nn then _ else nn)
      rw [if_pos (by unfold nn; omega)]
      omega
    · have hv : Vt soft n j (s / 2) = nn := by rw [e, if_neg hs2]
      rw [if_neg (by omega), hv, if_neg (by omega)]
end Go.Spec
/- Plain facts: the best way, forwards, as the document has it. -/
namespace Go.Spec
open Go Go.Lift
abbrev WayT := List Int × Int × Bool × Unit
def dW : WayT := ([], 0, false, ())
def better (w v : WayT) : Bool := if (!v.2.2.1) = true then true else if w.2.1 > v.2.1 then true else if w.2.1 = v.2.1 then ahead w.1 v.1 else false
def candW (soft : List Int) (n i : Nat) (w : WayT) (s : Nat) (x : Int) : WayT := (if i < n then w.1 ++ [x] else w.1, w.2.1 + gn soft i (rg s x), true, ())
def updC (soft : List Int) (n i : Nat) (w : WayT) (s : Nat) (x : Int) (r : List WayT) : List WayT :=
  if x = 1 ∧ n ≤ i then r else if better (candW soft n i w s x) (r.getD (rg s x / 2) dW) = true then r.set (rg s x / 2) (candW soft n i w s x) else r
def updS (soft : List Int) (n i : Nat) (tab : List WayT) (s : Nat) (r : List WayT) : List WayT :=
  if (tab.getD s dW).2.2.1 = true then updC soft n i (tab.getD s dW) s 1 (updC soft n i (tab.getD s dW) s 0 r) else r
def foldS (soft : List Int) (n i : Nat) (tab : List WayT) : Nat → Nat → List WayT → List WayT
  | 0, _, r => r
  | f + 1, s, r => foldS soft n i tab f (s + 1) (updS soft n i tab s r)
def stepW (soft : List Int) (n i : Nat) (tab : List WayT) : List WayT := foldS soft n i tab 64 0 (List.replicate 64 dW)
def runW (soft : List Int) (n : Nat) : Nat → Nat → List WayT → List WayT
  | 0, _, tab => tab
  | f + 1, i, tab => runW soft n f (i + 1) (stepW soft n i tab)
/-- a way to a state: its bits, noughts behind n -/
def Pth (n i s : Nat) (l : List Int) : Prop := Bits l ∧ l.length = i ∧ (∀ k, n ≤ k → l.getD k 0 = 0) ∧ FS 0 l = s
def OptW (soft : List Int) (n i s : Nat) (D : List Int → Prop) (w : WayT) : Prop :=
  (w.2.2.1 = true → ∃ l, Pth n i s l ∧ D l ∧ w.1 = l.take n ∧ w.2.1 = GL soft 0 0 l ∧ ∀ l', Pth n i s l' → D l' → GL soft 0 0 l' < GL soft 0 0 l ∨ (GL soft 0 0 l' = GL soft 0 0 l ∧ ahead (l'.take n) (l.take n) = false)) ∧
  (w.2.2.1 = false → ∀ l', Pth n i s l' → ¬ D l')
def TabOK (soft : List Int) (n i : Nat) (tab : List WayT) : Prop := tab.length = 64 ∧ ∀ s, s < 64 → OptW soft n i s (fun _ => True) (tab.getD s dW)
/-- those whose last step is of a state below s, or of s by a bit below x -/
def Below (i s : Nat) (x : Int) (l : List Int) : Prop := FS 0 (l.take i) < s ∨ (FS 0 (l.take i) = s ∧ l.getD i 0 < x)
def Mid (soft : List Int) (n i s : Nat) (x : Int) (r : List WayT) : Prop := r.length = 64 ∧ ∀ t, t < 64 → OptW soft n (i + 1) t (Below i s x) (r.getD t dW)
theorem OptW.iff {soft : List Int} {n i s : Nat} {D E : List Int → Prop} {w : WayT} (h : OptW soft n i s D w) (he : ∀ l, Pth n i s l → (D l ↔ E l)) : OptW soft n i s E w := by
  refine ⟨fun ht => ?_, fun hf l' hp he' => h.2 hf l' hp ((he l' hp).2 he')⟩
  obtain ⟨l, h1, h2, h3, h4, h5⟩ := h.1 ht
  exact ⟨l, h1, (he l h1).1 h2, h3, h4, fun l' hp hE => h5 l' hp ((he l' hp).2 hE)⟩
theorem Pth.snoc {n i t : Nat} {l : List Int} (h : Pth n (i + 1) t l) : ∃ l0 x, l = l0 ++ [x] ∧ (x = 0 ∨ x = 1) ∧ (n ≤ i → x = 0) ∧ Pth n i (FS 0 l0) l0 ∧ l0.length = i ∧ rg (FS 0 l0) x / 2 = t ∧ l.take i = l0 ∧ l.getD i 0 = x := by
  obtain ⟨h1, h2, h3, h4⟩ := h
  have hne : l ≠ [] := fun e => by rw [e] at h2; cases h2
  obtain ⟨l0, x, rfl⟩ : ∃ l0 x, l = l0 ++ [x] := ⟨l.dropLast, l.getLast hne, (List.dropLast_concat_getLast hne).symm⟩
  have hl0 : l0.length = i := by simpa using h2
  have hx : (l0 ++ [x]).getD i 0 = x := by rw [getD_app_right (by omega), hl0, Nat.sub_self]; rfl
  refine ⟨l0, x, rfl, h1 x (by simp), fun hn => ?_, ⟨fun y hy => h1 y (List.mem_append_left _ hy), hl0, fun k hk => ?_, rfl⟩, hl0, ?_, ?_, hx⟩
  · rw [← hx]; exact h3 i hn
  · by_cases hki : k < i
    · have := h3 k hk
      rw [getD_app_left (by omega)] at this; exact this
    · exact getD_none (by omega)
  · rw [FS_app] at h4; exact h4
  · rw [List.take_append_of_le_length (by omega), List.take_of_length_le (by omega)]
theorem Pth.more {n i s : Nat} {l : List Int} {x : Int} (h : Pth n i s l) (hx : x = 0 ∨ x = 1) (hn : n ≤ i → x = 0) : Pth n (i + 1) (rg s x / 2) (l ++ [x]) := by
  obtain ⟨h1, h2, h3, h4⟩ := h
  refine ⟨h1.app (fun y hy => by simp at hy; subst hy; exact hx), by simp [h2], fun k hk => ?_, by rw [FS_app, h4]; rfl⟩
  by_cases hki : k < i
  · rw [getD_app_left (by omega)]; exact h3 k hk
  · by_cases hk2 : k = i
    · subst hk2
      rw [getD_app_right (by omega), h2, Nat.sub_self]
      exact hn hk
    · exact getD_none (by simp; omega)
theorem GL_snoc (soft : List Int) (l : List Int) (x : Int) : GL soft 0 0 (l ++ [x]) = GL soft 0 0 l + gn soft l.length (rg (FS 0 l) x) := by
  rw [GL_app]; simp [GL]
theorem take_snoc_lt {n : Nat} {l : List Int} (x : Int) (h : l.length < n) : (l ++ [x]).take n = l.take n ++ [x] := by
  rw [List.take_of_length_le (by simp; omega), List.take_of_length_le (by omega)]
theorem take_snoc_ge {n : Nat} {l : List Int} (x : Int) (h : n ≤ l.length) : (l ++ [x]).take n = l.take n := by
  rw [List.take_append_of_le_length h]
theorem ahead_take_snoc {n : Nat} {a b : List Int} (x : Int) (h : a.length = b.length) : ahead ((a ++ [x]).take n) ((b ++ [x]).take n) = ahead (a.take n) (b.take n) := by
  by_cases hn : a.length < n
  · rw [take_snoc_lt x hn, take_snoc_lt x (by omega), ahead_snoc _ _ _ (by simp [h])]
  · rw [take_snoc_ge x (by omega), take_snoc_ge x (by omega)]
/-- one candidate -/
theorem updC_ok {soft : List Int} {n i s : Nat} {w : WayT} {x : Int} {r : List WayT} (hs : s < 64) (hx : x = 0 ∨ x = 1) (hw : OptW soft n i s (fun _ => True) w) (ht : w.2.2.1 = true) (h : Mid soft n i s x r) :
    Mid soft n i s (x + 1) (updC soft n i w s x r) := by
  obtain ⟨hl, h⟩ := h
  unfold updC
  by_cases hskip : x = 1 ∧ n ≤ i
  · rw [if_pos hskip]
    refine ⟨hl, fun t ht => (h t ht).iff fun l hp => ?_⟩
    obtain ⟨l0, y, rfl, hy, hny, _, _, _, e1, e2⟩ := hp.snoc
    unfold Below
    rw [e1, e2, hny hskip.2]
    rw [hskip.1]
    simp
  · rw [if_neg hskip]
    have hnx : n ≤ i → x = 0 := fun hn => hx.elim id fun h1 => (hskip ⟨h1, hn⟩).elim
    obtain ⟨l, p1, _, p3, p4, p5⟩ := hw.1 ht
    have pm := p1.more hx hnx
    have hlen : l.length = i := p1.2.1
    have hfs : FS 0 l = s := p1.2.2.2
    have hto := (rg_lt hs hx).2
    -- the candidate's own numbers
    have c1 : (candW soft n i w s x).1 = (l ++ [x]).take n := by
      unfold candW
      simp only
      by_cases hin : i < n
      · rw [if_pos hin, take_snoc_lt x (by omega), p3]
      · rw [if_neg hin, take_snoc_ge x (by omega), p3]
    have c2 : (candW soft n i w s x).2.1 = GL soft 0 0 (l ++ [x]) := by
      rw [GL_snoc, hlen, hfs, ← p4]; rfl
    -- what is new is no better than the candidate
    have cnew : ∀ l', Pth n (i + 1) (rg s x / 2) l' → FS 0 (l'.take i) = s → l'.getD i 0 = x → GL soft 0 0 l' < GL soft 0 0 (l ++ [x]) ∨ (GL soft 0 0 l' = GL soft 0 0 (l ++ [x]) ∧ ahead (l'.take n) ((l ++ [x]).take n) = false) := by
      intro l' hp' hf hg
      obtain ⟨l0, y, rfl, hy, hny, q1, q2, q3, e1, e2⟩ := hp'.snoc
      rw [e1] at hf
      rw [e2] at hg
      subst hg
      have q1' : Pth n i s l0 := hf ▸ q1
      rw [GL_snoc, GL_snoc, q2, hlen, hf, hfs, ahead_take_snoc _ (by omega)]
      rcases p5 l0 q1' trivial with h | ⟨h, h'⟩
      · left; omega
      · right; exact ⟨by omega, h'⟩
    have hbl : ∀ t l', Pth n (i + 1) t l' → (Below i s (x + 1) l' ↔ Below i s x l' ∨ (FS 0 (l'.take i) = s ∧ l'.getD i 0 = x)) := by
      intro t l' hp'
      obtain ⟨l0, y, rfl, hy, _, _, _, _, e1, e2⟩ := hp'.snoc
      unfold Below
      rw [e1, e2]
      constructor
      · rintro (h | ⟨h, h'⟩)
        · exact .inl (.inl h)
        · by_cases hyx : y = x
          · exact .inr ⟨h, hyx⟩
          · exact .inl (.inr ⟨h, by omega⟩)
      · rintro ((h | ⟨h, h'⟩) | ⟨h, h'⟩)
        · exact .inl h
        · exact .inr ⟨h, by omega⟩
        · exact .inr ⟨h, by omega⟩
    have hother : ∀ t, t < 64 → t ≠ rg s x / 2 → OptW soft n (i + 1) t (Below i s (x + 1)) (r.getD t dW) := by
      intro t ht hne
      refine (h t ht).iff fun l' hp' => ?_
      rw [hbl t l' hp']
      constructor
      · exact .inl
      · rintro (h | ⟨h1, h2⟩)
        · exact h
        · obtain ⟨l0, y, rfl, hy, _, _, _, q3, e1, e2⟩ := hp'.snoc
          rw [e1] at h1
          rw [e2] at h2
          subst h1; subst h2
          exact (hne q3.symm).elim
    have hcb : Below i s (x + 1) (l ++ [x]) := by
      right
      obtain ⟨l0, y, e, _, _, _, q2, _, e1, e2⟩ := pm.snoc
      have := List.append_inj' e rfl
      have hy : x = y := by simpa using this.2
      rw [e1, e2, ← this.1, ← hy]
      exact ⟨hfs, by omega⟩
    have hv := h _ hto
    by_cases hb : better (candW soft n i w s x) (r.getD (rg s x / 2) dW) = true
    · rw [if_pos hb]
      refine ⟨by rw [List.length_set]; exact hl, fun t ht => ?_⟩
      by_cases hq : t = rg s x / 2
      · subst hq
        have hget : (r.set (rg s x / 2) (candW soft n i w s x)).getD (rg s x / 2) dW = candW soft n i w s x := by
          rw [List.getD_eq_getElem?_getD, List.getElem?_set_self (by omega)]; rfl
        rw [hget]
        refine ⟨fun _ => ⟨l ++ [x], pm, hcb, c1, c2, fun l' hp' hB => ?_⟩, fun hf => by cases hf⟩
        rcases (hbl _ l' hp').1 hB with hB | ⟨g1, g2⟩
        · -- what was there already
          cases hth : (r.getD (rg s x / 2) dW).2.2.1
          · exact (hv.2 hth l' hp' hB).elim
          · obtain ⟨m, m1, m2, m3, m4, m5⟩ := hv.1 hth
            have hml : m.length = l'.length := by rw [m1.2.1, hp'.2.1]
            have hcl : (l ++ [x]).length = m.length := by rw [m1.2.1, pm.2.1]
            unfold better at hb
            rw [hth] at hb
            simp only [Bool.not_true, Bool.false_eq_true, if_false] at hb
            rw [c1, c2, m3, m4] at hb
            by_cases k1 : GL soft 0 0 (l ++ [x]) > GL soft 0 0 m
            · rcases m5 l' hp' hB with k | ⟨k, _⟩
              · left; omega
              · left; omega
            · rw [if_neg k1] at hb
              by_cases k2 : GL soft 0 0 (l ++ [x]) = GL soft 0 0 m
              · rw [if_pos k2] at hb
                rcases m5 l' hp' hB with k | ⟨k, k3⟩
                · left; omega
                · right
                  refine ⟨by omega, ?_⟩
                  cases hc : ahead (l'.take n) ((l ++ [x]).take n)
                  · rfl
                  · have := ahead_trans _ _ _ (by simp only [List.length_take]; omega) (by simp only [List.length_take]; omega) hc hb
                    rw [k3] at this; cases this
              · rw [if_neg k2] at hb; cases hb
        · exact cnew l' hp' g1 g2
      · have hget : (r.set (rg s x / 2) (candW soft n i w s x)).getD t dW = r.getD t dW := by
          rw [List.getD_eq_getElem?_getD, List.getElem?_set_ne (fun e => hq e.symm), List.getD_eq_getElem?_getD]
        rw [hget]
        exact hother t ht hq
    · rw [if_neg hb]
      refine ⟨hl, fun t ht => ?_⟩
      by_cases hq : t = rg s x / 2
      · subst hq
        have hth : (r.getD (rg s x / 2) dW).2.2.1 = true := by
          cases hth : (r.getD (rg s x / 2) dW).2.2.1
          · exfalso; apply hb; unfold better; rw [hth]; rfl
          · rfl
        obtain ⟨m, m1, m2, m3, m4, m5⟩ := hv.1 hth
        have hcl : (l ++ [x]).length = m.length := by rw [m1.2.1, pm.2.1]
        unfold better at hb
        rw [hth] at hb
        simp only [Bool.not_true, Bool.false_eq_true, if_false] at hb
        rw [c1, c2, m3, m4] at hb
        have hk : GL soft 0 0 (l ++ [x]) < GL soft 0 0 m ∨ (GL soft 0 0 (l ++ [x]) = GL soft 0 0 m ∧ ahead ((l ++ [x]).take n) (m.take n) = false) := by
          by_cases k1 : GL soft 0 0 (l ++ [x]) > GL soft 0 0 m
          · rw [if_pos k1] at hb; exact (hb rfl).elim
          · rw [if_neg k1] at hb
            by_cases k2 : GL soft 0 0 (l ++ [x]) = GL soft 0 0 m
            · rw [if_pos k2] at hb; right; exact ⟨k2, by simpa using hb⟩
            · left; omega
        refine ⟨fun _ => ⟨m, m1, (hbl _ m m1).2 (.inl m2), m3, m4, fun l' hp' hB => ?_⟩, fun hf => by rw [hth] at hf; cases hf⟩
        rcases (hbl _ l' hp').1 hB with hB | ⟨g1, g2⟩
        · exact m5 l' hp' hB
        · have hl2 : l'.length = (l ++ [x]).length := by rw [hp'.2.1, pm.2.1]
          rcases cnew l' hp' g1 g2 with k | ⟨k, k'⟩ <;> rcases hk with q | ⟨q, q'⟩
          · left; omega
          · left; omega
          · left; omega
          · right
            exact ⟨by omega, nahead_trans _ _ _ (by simp only [List.length_take]; omega) (by simp only [List.length_take]; omega) k' q'⟩
      · exact hother t ht hq
theorem updS_ok {soft : List Int} {n i s : Nat} {tab r : List WayT} (hs : s < 64) (hT : TabOK soft n i tab) (h : Mid soft n i s 0 r) : Mid soft n i (s + 1) 0 (updS soft n i tab s r) := by
  have next : ∀ r', Mid soft n i s 2 r' → Mid soft n i (s + 1) 0 r' := by
    intro r' ⟨hl, hm⟩
    refine ⟨hl, fun t ht => (hm t ht).iff fun l hp => ?_⟩
    obtain ⟨l0, y, rfl, hy, _, _, _, _, e1, e2⟩ := hp.snoc
    unfold Below
    rw [e1, e2]
    constructor
    · rintro (h | ⟨h, _⟩) <;> left <;> omega
    · rintro (h | ⟨_, h⟩)
      · by_cases hq : FS 0 l0 = s
        · right; exact ⟨hq, by omega⟩
        · left; omega
      · omega
  unfold updS
  cases ht : (tab.getD s dW).2.2.1
  · rw [if_neg (by decide)]
    refine next r ⟨h.1, fun t ht' => (h.2 t ht').iff fun l hp => ?_⟩
    obtain ⟨l0, y, rfl, hy, _, q1, _, _, e1, e2⟩ := hp.snoc
    unfold Below
    rw [e1, e2]
    constructor
    · rintro (h | ⟨h, h'⟩)
      · exact .inl h
      · exact .inr ⟨h, by omega⟩
    · rintro (h | ⟨h, _⟩)
      · exact .inl h
      · exact ((hT.2 s hs).2 ht l0 (h ▸ q1) trivial).elim
  · rw [if_pos rfl]
    exact next _ (updC_ok hs (.inr rfl) (hT.2 s hs) ht (updC_ok hs (.inl rfl) (hT.2 s hs) ht h))
theorem foldS_ok {soft : List Int} {n i : Nat} {tab : List WayT} (hT : TabOK soft n i tab) : ∀ (f s : Nat) (r : List WayT), s + f = 64 → Mid soft n i s 0 r → Mid soft n i 64 0 (foldS soft n i tab f s r)
  | 0, s, r, hs, h => by
    have : s = 64 := by omega
    subst this; exact h
  | f + 1, s, r, hs, h => foldS_ok hT f (s + 1) _ (by omega) (updS_ok (by omega) hT h)
theorem stepW_ok {soft : List Int} {n i : Nat} {tab : List WayT} (hT : TabOK soft n i tab) : TabOK soft n (i + 1) (stepW soft n i tab) := by
  have h0 : Mid soft n i 0 0 (List.replicate 64 dW) := by
    refine ⟨by simp, fun t ht => ?_⟩
    have e : (List.replicate 64 dW).getD t dW = dW := by
      rw [List.getD_eq_getElem?_getD, List.getElem?_replicate]; split <;> rfl
    rw [e]
    refine ⟨fun h => (by cases h), fun _ l' hp hB => ?_⟩
    obtain ⟨l0, y, rfl, hy, _, _, _, _, e1, e2⟩ := hp.snoc
    unfold Below at hB
    rw [e1, e2] at hB
    rcases hB with h | ⟨_, h⟩ <;> omega
  obtain ⟨h1, h2⟩ := foldS_ok hT 64 0 _ rfl h0
  refine ⟨h1, fun t ht => (h2 t ht).iff fun l hp => ?_⟩
  obtain ⟨l0, y, rfl, hy, _, q1, _, _, e1, e2⟩ := hp.snoc
  have := FS_lt l0 0 q1.1 (by decide)
  unfold Below
  rw [e1]
  simp only [iff_true]
  left; omega
theorem runW_ok {soft : List Int} {n : Nat} : ∀ (f i : Nat) (tab : List WayT), TabOK soft n i tab → TabOK soft n (i + f) (runW soft n f i tab)
  | 0, i, tab, h => h
  | f + 1, i, tab, h => by
    have := runW_ok f (i + 1) _ (stepW_ok h)
    rw [show i + 1 + f = i + (f + 1) by omega] at this
    exact this
def tab0 : List WayT := ([], 0, true, ()) :: List.replicate 63 dW
theorem tab0_ok (soft : List Int) (n : Nat) : TabOK soft n 0 tab0 := by
  refine ⟨rfl, fun s hs => ?_⟩
  have only : ∀ s l, Pth n 0 s l → l = [] ∧ s = 0 := fun s l h => by
    have : l = [] := List.length_eq_zero_iff.1 h.2.1
    subst this
    exact ⟨rfl, h.2.2.2.symm⟩
  cases s with
  | zero => exact ⟨fun _ => ⟨[], ⟨fun x hx => (by cases hx), rfl, fun _ _ => rfl, rfl⟩, trivial, by simp [tab0], by simp [tab0, GL], fun l' hp _ => by rw [(only _ _ hp).1]; exact .inr ⟨rfl, ahead_irr _⟩⟩, fun h => by simp [tab0] at h⟩
  | succ s =>
    have e : tab0.getD (s + 1) dW = dW := by
      show (List.replicate 63 dW).getD s dW = dW
      rw [List.getD_eq_getElem?_getD, List.getElem?_replicate]; split <;> rfl
    rw [e]
    exact ⟨fun h => (by cases h), fun _ l' hp _ => by have := (only _ _ hp).2; omega⟩
theorem runW_best (soft : List Int) (n : Nat) : (((runW soft n (n + 6) 0 tab0).getD 0 dW).1, ((runW soft n (n + 6) 0 tab0).getD 0 dW).2.1) = ((Bst soft n n 0).2, (Bst soft n n 0).1) := by
  have hT := runW_ok (n + 6) 0 tab0 (tab0_ok soft n)
  rw [Nat.zero_add] at hT
  have hO := hT.2 0 (by decide)
  generalize (runW soft n (n + 6) 0 tab0).getD 0 dW = w at *
  have mk : ∀ u, Bits u → u.length = n → Pth n (n + 6) 0 (u ++ zs 6) := by
    intro u hb hl
    refine ⟨hb.app (zs_bits 6), by simp [hl, zs_length], fun k hk => ?_, ?_⟩
    · rw [getD_app_right (by omega)]
      unfold zs
      rw [List.getD_eq_getElem?_getD, List.getElem?_replicate]; split <;> rfl
    · rw [FS_app, FS_zs]
      have := FS_lt u 0 hb (by decide)
      omega
  have tk : ∀ u : List Int, u.length = n → (u ++ zs 6).take n = u := fun u hl => by rw [List.take_append_of_le_length (by omega), List.take_of_length_le (by omega)]
  cases ht : w.2.2.1
  · exact (hO.2 ht _ (mk (zs n) (zs_bits n) (zs_length n)) trivial).elim
  · obtain ⟨l, p1, _, p3, p4, p5⟩ := hO.1 ht
    have hle : l = l.take n ++ zs 6 := by
      refine list_ext (by simp [p1.2.1, zs_length]) fun k hk => ?_
      rw [p1.2.1] at hk
      by_cases hkn : k < n
      · rw [getD_app_left (by rw [List.length_take, p1.2.1]; omega), getD_take' hkn]
      · rw [p1.2.2.1 k (by omega), getD_app_right (by rw [List.length_take, p1.2.1]; omega)]
        unfold zs
        rw [List.getD_eq_getElem?_getD, List.getElem?_replicate]; split <;> rfl
    have hln : (l.take n).length = n := by rw [List.length_take, p1.2.1]; omega
    have hB : IsBest soft n n 0 w.2.1 w.1 := by
      rw [p3]
      refine ⟨fun x hx => p1.1 x (List.mem_of_mem_take hx), hln, by rw [Nat.sub_self, ← hle]; exact p4.symm, fun u' hb hl => ?_⟩
      rw [Nat.sub_self, p4]
      have := p5 _ (mk u' hb hl) trivial
      rw [tk u' hl] at this
      exact this
    obtain ⟨e1, e2⟩ := best_unique hB (Bst_best soft n n 0 (Nat.le_refl n))
    rw [e1, e2]
/-! the tables of the walks -/
def decC (t0 : List Int) (n : Int) : Prop := Softs t0 ∧ (t0.length : Int) = 3 * (n + 6) ∧ 0 ≤ n ∧ n ≤ 400
def decErr (s : List Int) : Int := if softB s = true ∧ s.length % 3 = 0 ∧ 18 ≤ s.length ∧ s.length ≤ 1218 then 0 else 1
def decN (s : List Int) : Nat := s.length / 3 - 6
def decB (s : List Int) : Int × List Int := Bst s (decN s) (decN s) 0
def decL (s : List Int) : List Int := if decErr s = 0 then (decB s).2 else []
def decV (s : List Int) : Int := if decErr s = 0 then (decB s).1 else 0
def rowV (s : List Int) (n j : Nat) : List Int := seg (Vt s n j) 0 64
def tabV (s : List Int) (n : Nat) : List (List Int) := seg (fun k => rowV s n (n + 6 - k)) 0 (n + 7)
def updB (soft : List Int) (n i : Nat) (w : WayT) (s : Nat) (x : Int) (r : List WayT) : List WayT :=
  if x = 0 then updC soft n i w s 1 (updC soft n i w s 0 r) else if x = 1 then updC soft n i w s 1 r else r
def wayK (n i : Nat) (w : WayT) : Prop := w.2.2.1 = true → Bits w.1 ∧ w.1.length = min i n ∧ -(300000 * (i : Int)) ≤ w.2.1 ∧ w.2.1 ≤ 300000 * (i : Int)
def tabK (n i : Nat) (r : List WayT) : Prop := r.length = 64 ∧ ∀ s, s < 64 → wayK n i (r.getD s dW)
theorem decErr_ok {s : List Int} (h : decErr s = 0) : decC s (decN s) := by
  unfold decErr at h
  split at h
  · rename_i hc
    obtain ⟨h1, h2, h3, h4⟩ := hc
    refine ⟨softB_spec.1 h1, ?_, by omega, ?_⟩ <;> unfold decN <;> omega
  · cases h
theorem candW_k {soft : List Int} {n i s : Nat} {w : WayT} {x : Int} (hs : Softs soft) (hx : x = 0 ∨ x = 1) (hw : wayK n i w) (ht : w.2.2.1 = true) : wayK n (i + 1) (candW soft n i w s x) := by
  obtain ⟨h1, h2, h3, h4⟩ := hw ht
  have hg := gn_bd hs i (rg s x)
  intro _
  unfold candW
  refine ⟨?_, ?_, by simp only; omega, by simp only; omega⟩
  · simp only
    split
    · exact h1.app fun y hy => by simp at hy; subst hy; exact hx
    · exact h1
  · simp only
    split
    · rw [List.length_append, h2]; simp; omega
    · rw [h2]; omega
theorem updC_k {soft : List Int} {n i s : Nat} {w : WayT} {x : Int} {r : List WayT} (hs : Softs soft) (hx : x = 0 ∨ x = 1) (hw : wayK n i w) (ht : w.2.2.1 = true) (h : tabK n (i + 1) r) : tabK n (i + 1) (updC soft n i w s x r) := by
  unfold updC
  split
  · exact h
  · split
    · refine ⟨by rw [List.length_set]; exact h.1, fun t ht' => ?_⟩
      by_cases hq : rg s x / 2 = t
      · subst hq
        rw [List.getD_eq_getElem?_getD, List.getElem?_set_self (by rw [h.1]; exact ht')]
        exact candW_k hs hx hw ht
      · rw [List.getD_eq_getElem?_getD, List.getElem?_set_ne hq, ← List.getD_eq_getElem?_getD]
        exact h.2 t ht'
    · exact h
theorem updB_k {soft : List Int} {n i s : Nat} {w : WayT} {x : Int} {r : List WayT} (hs : Softs soft) (hw : wayK n i w) (ht : w.2.2.1 = true) (h : tabK n (i + 1) r) : tabK n (i + 1) (updB soft n i w s x r) := by
  unfold updB
  split
  · exact updC_k hs (.inr rfl) hw ht (updC_k hs (.inl rfl) hw ht h)
  · split
    · exact updC_k hs (.inr rfl) hw ht h
    · exact h
theorem foldS_k {soft : List Int} {n i : Nat} {tab : List WayT} (hs : Softs soft) (hT : tabK n i tab) : ∀ (f s : Nat) (r : List WayT), s + f = 64 → tabK n (i + 1) r → tabK n (i + 1) (foldS soft n i tab f s r)
  | 0, _, _, _, h => h
  | f + 1, s, r, he, h => by
    refine foldS_k hs hT f (s + 1) _ (by omega) ?_
    unfold updS
    split
    · rename_i ht
      exact updC_k hs (.inr rfl) (hT.2 s (by omega)) ht (updC_k hs (.inl rfl) (hT.2 s (by omega)) ht h)
    · exact h
theorem tab0_k (n : Nat) : tabK n 0 tab0 := by
  refine ⟨rfl, fun s hs => ?_⟩
  cases s with
  | zero => intro _; exact ⟨fun x hx => (by cases hx), by simp [tab0], by simp [tab0], by simp [tab0]⟩
  | succ s =>
    have e : tab0.getD (s + 1) dW = dW := by
      show (List.replicate 63 dW).getD s dW = dW
      rw [List.getD_eq_getElem?_getD, List.getElem?_replicate]; split <;> rfl
    rw [e]; intro h; cases h
theorem rep_k (n i : Nat) : tabK n i (List.replicate 64 dW) := by
  refine ⟨by simp, fun s hs => ?_⟩
  have e : (List.replicate 64 dW).getD s dW = dW := by
    rw [List.getD_eq_getElem?_getD, List.getElem?_replicate]; split <;> rfl
  rw [e]; intro h; cases h
end Go.Spec
namespace Go.Spec
open Go Go.Lift
def X_conv_gain_0_0 (t5 : Int) (K : AExit → St → Prop) : Prop := K (.exit 0) ⟨un 5 ++ (.s (.val (.int .i64) t5) :: (un 20)), [], 0⟩
def X_R_Ahead_0_0 (t4 : Bool) (K : AExit → St → Prop) : Prop := K .ret ⟨un 4 ++ (.s (.val .bool t4) :: (un 25)), [], 0⟩
def X_R_Ahead_0_1  (K : AExit → St → Prop) : Prop := K (.exit 0) ⟨un 30, [], 0⟩
def X_conv_Decode_0_0 (t0 : (List Int)) (t5 : Int) (t6 : Int) (r0 : (List (List Int))) (K : AExit → St → Prop) : Prop := K (.exit 0) ⟨.s (.val (.ro (.int .i64)) t0) :: (un 4 ++ (.s (.val (.int .i64) t5) :: (.s (.val (.int .i64) t6) :: (.s (.sl 0) :: (un 158))))), [(0, .row (.arr 64 (.int .i64)) r0)], 1⟩
def X_conv_Decode_2_0 (t0 : (List Int)) (t5 : Int) (r0 : (List (List Int))) (K : AExit → St → Prop) : Prop := K (.exit 2) ⟨.s (.val (.ro (.int .i64)) t0) :: (un 4 ++ (.s (.val (.int .i64) t5) :: (un 1 ++ (.s (.sl 0) :: (un 158))))), [(0, .row (.arr 64 (.int .i64)) r0)], 1⟩
def X_conv_Decode_4_0 (t0 : (List Int)) (t5 : Int) (t9 : Int) (r0 : (List (List Int))) (K : AExit → St → Prop) : Prop := K (.exit 4) ⟨.s (.val (.ro (.int .i64)) t0) :: (un 4 ++ (.s (.val (.int .i64) t5) :: (un 1 ++ (.s (.sl 0) :: (un 1 ++ (.s (.val (.int .i64) t9) :: (un 156))))))), [(0, .row (.arr 64 (.int .i64)) r0)], 1⟩
def X_conv_Decode_6_0 (t0 : (List Int)) (t5 : Int) (t9 : Int) (t60 : Int) (r0 : (List (List Int))) (K : AExit → St → Prop) : Prop := K (.exit 6) ⟨.s (.val (.ro (.int .i64)) t0) :: (un 4 ++ (.s (.val (.int .i64) t5) :: (un 1 ++ (.s (.sl 0) :: (un 1 ++ (.s (.val (.int .i64) t9) :: (un 50 ++ (.s (.val (.int .i64) t60) :: (un 105))))))))), [(0, .row (.arr 64 (.int .i64)) r0)], 1⟩
def X_conv_Decode_8_0 (r0 : (List (List Int))) (r1 : (List Int)) (K : AExit → St → Prop) : Prop := K (.exit 8) ⟨un 7 ++ (.s (.sl 0) :: (un 6 ++ (.s (.sl 1) :: (un 151)))), [(0, .row (.arr 64 (.int .i64)) r0), (1, .row (.int .u8) r1)], 2⟩
end Go.Spec
/- What the functions answer: the best way through the code with a memory. -/
namespace Go.Spec
open Go Go.Lift
def S_conv_gain : Summ := { par := [.v (.arr 3 (.int .u8)), .v (.ro (.int .i64))], res := [.v (.int .i64)], esc := false, pre := fun x => Bits x.1 ∧ List.length x.1 = 3 ∧ 3 ≤ List.length x.2.1 ∧ Softs x.2.1, fn := fun x => ((scp x.1 x.2.1, ()), ((), (), ())) }
def p_conv_gain_0 (t1 : List Int) (t5 : Int) (t8 : List Int) (t9 : Int) : Prop := Bits t8 ∧ t8.length = 3 ∧ 3 ≤ t1.length ∧ Softs t1 ∧ 0 ≤ t9 ∧ t9 ≤ 3 ∧ -(100000 * t9) ≤ t5 ∧ t5 ≤ 100000 * t9
def m_conv_gain_0 (_t1 : List Int) (_t5 : Int) (_t8 : List Int) (t9 : Int) : Nat := (3 - t9).toNat
def o_conv_gain_0 (t1 : List Int) (t5 : Int) (t8 : List Int) (t9 : Int) (K : AExit → St → Prop) : Prop := X_conv_gain_0_0 (t5 + scp (t8.drop t9.toNat) (t1.drop t9.toNat)) K
def S_R_Ahead : Summ := { par := [.v (.ro (.int .u8)), .v (.ro (.int .u8))], res := [.v .bool], esc := false, pre := fun x => List.length x.1 = List.length x.2.1 ∧ (List.length x.1 : Int) ≤ big, fn := fun x => ((ahead x.1 x.2.1, ()), ((), (), ())) }
def p_R_Ahead_0 (t0 t1 : List Int) (t5 : Int) : Prop := t0.length = t1.length ∧ (t0.length : Int) ≤ big ∧ 0 ≤ t5 ∧ t5 ≤ t0.length
def m_R_Ahead_0 (t0 _t1 : List Int) (t5 : Int) : Nat := (t0.length - t5).toNat
def o_R_Ahead_0 (t0 t1 : List Int) (t5 : Int) (K : AExit → St → Prop) : Prop := condP (decide (t0.drop t5.toNat = t1.drop t5.toNat)) (X_R_Ahead_0_1 K) (X_R_Ahead_0_0 (ahead (t0.drop t5.toNat) (t1.drop t5.toNat)) K)
def S_conv_Decode : Summ := { par := [.v (.ro (.int .i64))], res := [.row (.int .u8), .v (.int .i64), .v (.int .i64)], esc := false, pre := fun x => (List.length x.1 : Int) ≤ big, fn := fun x => ((decL x.1, decV x.1, decErr x.1, ()), ((), ())) }
def p_conv_Decode_0 (t0 : List Int) (t5 t6 t8 : Int) (r0 : List (List Int)) : Prop := decC t0 t5 ∧ t6 = t5 + 6 ∧ (r0.length : Int) = t6 + 1 ∧ 1 ≤ t8 ∧ t8 ≤ 64 ∧ (r0.getD t6.toNat (List.replicate 64 0)) = (rowV t0 t5.toNat 0).take t8.toNat ++ List.replicate (64 - t8.toNat) 0 ∧ ∀ k, k < r0.length → (r0.getD k (List.replicate 64 0)).length = 64
def m_conv_Decode_0 (_t0 : List Int) (_t5 _t6 t8 : Int) (_r0 : List (List Int)) : Nat := (64 - t8).toNat
def o_conv_Decode_0 (t0 : List Int) (t5 t6 _t8 : Int) (r0 : List (List Int)) (K : AExit → St → Prop) : Prop := X_conv_Decode_0_0 t0 t5 t6 (r0.set t6.toNat (rowV t0 t5.toNat 0)) K
/-- the rows behind i are told -/
def rowsOK (t0 : List Int) (n i : Int) (r0 : List (List Int)) : Prop := (r0.length : Int) = n + 7 ∧ (∀ k, k < r0.length → (r0.getD k (List.replicate 64 0)).length = 64) ∧ ∀ k : Nat, i < k → (k : Int) ≤ n + 6 → r0.getD k (List.replicate 64 0) = rowV t0 n.toNat (n + 6 - k).toNat
def p_conv_Decode_2 (t0 : List Int) (t5 t9 : Int) (r0 : List (List Int)) : Prop := decC t0 t5 ∧ -1 ≤ t9 ∧ t9 < t5 + 6 ∧ rowsOK t0 t5 t9 r0
def m_conv_Decode_2 (_t0 : List Int) (_t5 t9 : Int) (_r0 : List (List Int)) : Nat := (t9 + 1).toNat
def o_conv_Decode_2 (t0 : List Int) (t5 _t9 : Int) (_r0 : List (List Int)) (K : AExit → St → Prop) : Prop := X_conv_Decode_2_0 t0 t5 (tabV t0 t5.toNat) K
def rowI (t0 : List Int) (n i : Int) : List Int := rowV t0 n.toNat (n + 6 - i).toNat
def p_conv_Decode_4 (t0 : List Int) (t5 t9 t60 : Int) (r0 : List (List Int)) : Prop := decC t0 t5 ∧ 0 ≤ t9 ∧ t9 < t5 + 6 ∧ rowsOK t0 t5 t9 r0 ∧ 0 ≤ t60 ∧ t60 ≤ 64 ∧ (r0.getD t9.toNat (List.replicate 64 0)).take t60.toNat = (rowI t0 t5 t9).take t60.toNat
def m_conv_Decode_4 (_t0 : List Int) (_t5 _t9 t60 : Int) (_r0 : List (List Int)) : Nat := (64 - t60).toNat
def o_conv_Decode_4 (t0 : List Int) (t5 t9 _t60 : Int) (r0 : List (List Int)) (K : AExit → St → Prop) : Prop := X_conv_Decode_4_0 t0 t5 t9 (r0.set t9.toNat (rowI t0 t5 t9)) K
def atV (t0 : List Int) (n i s x : Int) : Int := if x = 0 then nn else if x = 1 then Va t0 n.toNat (n + 5 - i).toNat s.toNat 0 nn else Vt t0 n.toNat (n + 6 - i).toNat s.toNat
def p_conv_Decode_6 (t0 : List Int) (t5 t9 t10 t60 t68 : Int) (r0 : List (List Int)) : Prop := decC t0 t5 ∧ 0 ≤ t9 ∧ t9 < t5 + 6 ∧ rowsOK t0 t5 t9 r0 ∧ t10 = t60 ∧ 0 ≤ t60 ∧ t60 < 64 ∧ 0 ≤ t68 ∧ t68 ≤ 2 ∧ (r0.getD t9.toNat (List.replicate 64 0)).getD t60.toNat 0 = atV t0 t5 t9 t60 t68
def m_conv_Decode_6 (_t0 : List Int) (_t5 _t9 _t10 _t60 t68 : Int) (_r0 : List (List Int)) : Nat := (2 - t68).toNat
def o_conv_Decode_6 (t0 : List Int) (t5 t9 _t10 t60 _t68 : Int) (r0 : List (List Int)) (K : AExit → St → Prop) : Prop := X_conv_Decode_6_0 t0 t5 t9 t60 (r0.set t9.toNat ((r0.getD t9.toNat (List.replicate 64 0)).set t60.toNat (Vt t0 t5.toNat (t5 + 6 - t9).toNat t60.toNat))) K
def p_conv_Decode_8 (t0 : List Int) (t15 t117 t118 : Int) (r0 : List (List Int)) (r1 : List Int) : Prop := decC t0 t117 ∧ r0 = tabV t0 t117.toNat ∧ 0 ≤ t15 ∧ t15 < 64 ∧ 0 ≤ t118 ∧ t118 ≤ t117 ∧ (r1.length : Int) = t118
def m_conv_Decode_8 (_t0 : List Int) (_t15 t117 t118 : Int) (_r0 : List (List Int)) (_r1 : List Int) : Nat := (t117 - t118).toNat
def o_conv_Decode_8 (t0 : List Int) (t15 t117 t118 : Int) (r0 : List (List Int)) (r1 : List Int) (K : AExit → St → Prop) : Prop := X_conv_Decode_8_0 r0 (r1 ++ (Bst t0 t117.toNat (t117.toNat - t118.toNat) t15.toNat).2) K
def S_R_Decode : Summ := { par := [.v (.ro (.int .i64))], res := [.v (.ro (.int .u8)), .v (.int .i64)], esc := true, pre := fun x => decErr x.1 = 0, fn := fun x => ((decL x.1, decV x.1, ()), ((), ())) }
def S_law_ConvDecodes : Summ := { par := [.v (.ro (.int .i64))], res := [.v .bool], esc := false, pre := fun x => (List.length x.1 : Int) ≤ big, fn := fun _ => ((true, ()), ((), ())) }
end Go.Spec
