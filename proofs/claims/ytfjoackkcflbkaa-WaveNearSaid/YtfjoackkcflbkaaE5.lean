/- Lines for the functions of this seat; merged from texts of their own. -/
import Derived.Test.YtfjoackkcflbkaaP7
import Derived.Test.YtfjoackkcflbkaaLF
import Derived.Test.YtfjoackkcflbkaaE3
set_option linter.unusedVariables false
set_option linter.unusedSimpArgs false
/- Plain facts: sums. -/
namespace Go.Spec
open Go Go.Lift
def sW (k : Int) : Nat := if k = 0 then 6 else if k = 1 then 11 else if k = 2 then 16 else if k = 3 then 24 else 0
def sG (k : Int) : Nat := if k = 0 then 33 else if k = 1 then 1569 else if k = 2 then 4129 else if k = 3 then 8801531 else 0
def divL (k : Int) : List Int := if k = 0 then [6, 5, 0] else if k = 1 then [11, 10, 9, 5, 0] else if k = 2 then [16, 12, 5, 0] else if k = 3 then [24, 23, 18, 17, 14, 11, 10, 7, 6, 5, 4, 3, 1, 0] else []
def stepS (w g r x : Nat) : Nat := if (r / 2 ^ (w - 1) + x) % 2 = 1 then (2 * r) % 2 ^ w ^^^ g else (2 * r) % 2 ^ w
def runS (w g : Nat) : Nat → List Int → Nat
  | r, [] => r
  | r, x :: xs => runS w g (stepS w g r x.toNat) xs
def outS (w r : Nat) : List Int := seg (fun i => ((r / 2 ^ (w - 1 - i) % 2 : Nat) : Int)) 0 w
def sumL (b : List Int) (k : Int) : List Int := outS (sW k) (runS (sW k) (sG k) 0 b)
def sumErr (b : List Int) (k : Int) : Int := if bitsErr b ≠ 0 then bitsErr b else if sW k = 0 then 1 else 0
def sumOf (b : List Int) (k : Int) : List Int := if sumErr b k = 0 then sumL b k else []
def sealErr (b : List Int) (k : Int) : Int := if sumErr b k ≠ 0 then sumErr b k else if 4096 < b.length + sW k then 2 else 0
def sealOf (b : List Int) (k : Int) : List Int := if sealErr b k = 0 then b ++ sumL b k else []
def openOk (b : List Int) (k : Int) : Bool := decide (sumErr b k = 0 ∧ sW k ≤ b.length ∧ sumL (b.take (b.length - sW k)) k = b.drop (b.length - sW k))
def openOf (b : List Int) (k : Int) : List Int := if openOk b k = true then b.take (b.length - sW k) else []
/-- one is turned about at each place n - x -/
def togs (n : Int) : List Int → List Int → List Int
  | [], l => l
  | x :: xs, l => togs n xs (l.set (n - x).toNat ((l.getD (n - x).toNat 0 + 1) % 2))
def goR (d : List Int) (w : Nat) : Nat → Nat → List Int → List Int
  | _, 0, l => l
  | i, f + 1, l => goR d w (i + 1) f (if l.getD i 0 = 1 then togs ((i + w : Nat) : Int) d l else l)
theorem sW_ok {k : Int} (h : sW k ≠ 0) : k = 0 ∨ k = 1 ∨ k = 2 ∨ k = 3 := by
  unfold sW at h
  split at h
  · omega
  · split at h
    · omega
    · split at h
      · omega
      · split at h
        · omega
        · omega
theorem divL_nil {k : Int} : divL k = [] ↔ sW k = 0 := by
  unfold divL sW
  split
  · simp
  · split
    · simp
    · split
      · simp
      · split <;> simp
theorem outS_length (w r : Nat) : (outS w r).length = w := by unfold outS; rw [seg_length]; omega
theorem outS_bits (w r : Nat) : Bits (outS w r) := Bits.seg fun k => by omega
theorem togs_length : ∀ (d : List Int) (n : Int) (l : List Int), (togs n d l).length = l.length
  | [], _, _ => rfl
  | x :: xs, n, l => by rw [togs, togs_length xs, List.length_set]
theorem togs_bits : ∀ (d : List Int) (n : Int) (l : List Int), Bits l → Bits (togs n d l)
  | [], _, _, h => h
  | x :: xs, n, l, h => togs_bits xs n _ (h.set (mod2 _))
theorem togs_getD : ∀ (d : List Int) (n : Int) (l : List Int) (p : Nat), Bits l → (∀ x ∈ d, 0 ≤ n - x ∧ n - x < l.length) →
    (togs n d l).getD p 0 = (l.getD p 0 + (d.countP fun x => decide (n - x = p) : Nat)) % 2
  | [], n, l, p, hb, _ => by
    simp only [togs, List.countP_nil]
    rcases hb.getD p with h | h <;> rw [h] <;> rfl
  | x :: xs, n, l, p, hb, hd => by
    obtain ⟨h1, h2⟩ := hd x (List.mem_cons_self ..)
    rw [togs, togs_getD xs n _ p (hb.set (mod2 _)) (fun y hy => by rw [List.length_set]; exact hd y (List.mem_cons_of_mem _ hy)), getD_set (by omega), List.countP_cons]
    by_cases hp : n - x = p
    · rw [if_pos (by omega), if_pos (by simpa using hp)]
      rw [show (n - x).toNat = p by omega]
      omega
    · rw [if_neg (by omega), if_neg (by simpa using hp)]; rfl
theorem stepS_lt {w g r x : Nat} (hg : g < 2 ^ w) : stepS w g r x < 2 ^ w := by
  have h2 : (2 * r) % 2 ^ w < 2 ^ w := Nat.mod_lt _ (Nat.two_pow_pos w)
  unfold stepS
  split
  · exact Nat.xor_lt_two_pow h2 hg
  · exact h2
def rb (w r j : Nat) : Nat := if j < w then r / 2 ^ (w - 1 - j) % 2 else 0
theorem bit_div (r k : Nat) : r / 2 ^ k % 2 = (r.testBit k).toNat := by
  rw [Nat.testBit_eq_decide_div_mod_eq]
  rcases Nat.mod_two_eq_zero_or_one (r / 2 ^ k) with h | h <;> simp [h]
theorem bit_xor (a b k : Nat) : (a ^^^ b) / 2 ^ k % 2 = (a / 2 ^ k % 2 + b / 2 ^ k % 2) % 2 := by
  rw [bit_div, bit_div, bit_div, Nat.testBit_xor]
  cases a.testBit k <;> cases b.testBit k <;> rfl
theorem bit_shl {w r j : Nat} (hj : j < w) : (2 * r) % 2 ^ w / 2 ^ (w - 1 - j) % 2 = rb w r (j + 1) := by
  rw [bit_div, Nat.testBit_mod_two_pow, show decide (w - 1 - j < w) = true from decide_eq_true (by omega), Bool.true_and]
  unfold rb
  rw [← bit_div]
  by_cases h : j + 1 < w
  · rw [if_pos h, show w - 1 - j = (w - 1 - (j + 1)) + 1 by omega, Nat.pow_succ, Nat.mul_comm (2 ^ _) 2, ← Nat.div_div_eq_div_mul, Nat.mul_div_cancel_left r (by omega)]
  · rw [if_neg h, show w - 1 - j = 0 by omega]; omega
theorem rb_step {w g r x j : Nat} (hj : j < w) : rb w (stepS w g r x) j = (rb w r (j + 1) + (if (r / 2 ^ (w - 1) + x) % 2 = 1 then g / 2 ^ (w - 1 - j) % 2 else 0)) % 2 := by
  have e := bit_shl (r := r) hj
  have hm : rb w r (j + 1) < 2 := by unfold rb; split <;> omega
  unfold stepS
  rw [rb, if_pos hj]
  split
  · rw [bit_xor, e]
  · rw [e]; omega
theorem goR_length : ∀ (f i w : Nat) (d l : List Int), (goR d w i f l).length = l.length
  | 0, _, _, _, _ => rfl
  | f + 1, i, w, d, l => by
    rw [goR, goR_length f]
    split
    · exact togs_length _ _ _
    · rfl
theorem goR_run {w g : Nat} {d : List Int} (hw : 1 ≤ w) (hd : ∀ x ∈ d, 0 ≤ x ∧ x ≤ w) (hD : ∀ j, j < w → (d.countP fun x => decide (x = ((w - 1 - j : Nat) : Int))) % 2 = g / 2 ^ (w - 1 - j) % 2)
    (b : List Int) (hb : Bits b) : ∀ (f i r : Nat) (l : List Int), f + i = b.length → Bits l → l.length = b.length + w →
      (∀ j, l.getD (i + j) 0 = ((b.getD (i + j) 0) + (rb w r j : Nat)) % 2) → (goR d w i f l).drop b.length = outS w (runS w g r (b.drop i))
  | 0, i, r, l, hf, hl, hn, h => by
    have e : b.drop i = [] := List.drop_eq_nil_of_le (by omega)
    rw [goR, e, runS]
    refine list_ext (by rw [List.length_drop, outS_length]; omega) fun k hk => ?_
    rw [List.length_drop] at hk
    rw [getD_drop, show b.length + k = i + k by omega, h k, getD_none (by omega)]
    unfold outS
    rw [seg_getD _ (by omega)]
    unfold rb
    rw [if_pos (by omega)]
    omega
  | f + 1, i, r, l, hf, hl, hn, h => by
    rw [goR, drop_cons b i 0 (by omega), runS]
    have hx := hb.getD i
    have h0 := h 0
    have hr0 : rb w r 0 = r / 2 ^ (w - 1) % 2 := by unfold rb; rw [if_pos (by omega), Nat.sub_zero]
    rw [Nat.add_zero, hr0] at h0
    have htop : l.getD i 0 = 1 ↔ (r / 2 ^ (w - 1) + (b.getD i 0).toNat) % 2 = 1 := by rw [h0]; omega
    have hdd : ∀ x ∈ d, 0 ≤ ((i + w : Nat) : Int) - x ∧ ((i + w : Nat) : Int) - x < l.length := fun x hx => by have := hd x hx; omega
    refine goR_run hw hd hD b hb f (i + 1) _ _ (by omega) ?_ ?_ fun j => ?_
    · split
      · exact togs_bits _ _ _ hl
      · exact hl
    · split
      · rw [togs_length]; exact hn
      · exact hn
    · have hh := h (j + 1)
      rw [show i + (j + 1) = i + 1 + j by omega] at hh
      by_cases hj : j < w
      · rw [rb_step hj]
        have hDj := hD j hj
        by_cases ht : l.getD i 0 = 1
        · rw [if_pos ht, if_pos (htop.1 ht), togs_getD d _ l _ hl hdd, hh]
          have e : (d.countP fun x => decide (((i + w : Nat) : Int) - x = ((i + 1 + j : Nat) : Int))) = d.countP fun x => decide (x = ((w - 1 - j : Nat) : Int)) := by
            refine List.countP_congr fun x hx => ?_
            simp only [decide_eq_true_eq]
            omega
          rw [e]
          omega
        · rw [if_neg ht, if_neg (fun h => ht (htop.2 h)), hh]
          omega
      · have e0 : rb w r (j + 1) = 0 := by unfold rb; rw [if_neg (by omega)]
        have e1 : ∀ s, rb w s j = 0 := fun s => by unfold rb; rw [if_neg hj]
        rw [e0] at hh
        rw [e1]
        by_cases ht : l.getD i 0 = 1
        · rw [if_pos ht, togs_getD d _ l _ hl hdd, hh]
          have e : (d.countP fun x => decide (((i + w : Nat) : Int) - x = ((i + 1 + j : Nat) : Int))) = 0 := by
            rw [List.countP_eq_zero]
            intro x hx
            have := hd x hx
            simp only [decide_eq_true_eq]
            omega
          rw [e]
          omega
        · rw [if_neg ht, hh]
theorem div_ok : ∀ k : Fin 4, 1 ≤ sW k.1 ∧ sG k.1 < 2 ^ sW k.1 ∧ sW k.1 ≤ 24 ∧ (∀ x ∈ divL k.1, 0 ≤ x ∧ x ≤ sW k.1) ∧ (∀ j, j < sW k.1 → ((divL k.1).countP fun x => decide (x = ((sW k.1 - 1 - j : Nat) : Int))) % 2 = sG k.1 / 2 ^ (sW k.1 - 1 - j) % 2) ∧ (divL k.1).getD 0 0 = sW k.1 ∧ 1 ≤ (divL k.1).length ∧ (divL k.1).length ≤ 20 := by decide +kernel
theorem sum_ref {k : Int} (h : sW k ≠ 0) {b : List Int} (hb : Bits b) : (goR (divL k) (sW k) 0 b.length (b ++ List.replicate (sW k) 0)).drop b.length = sumL b k := by
  obtain ⟨n, rfl⟩ : ∃ n : Fin 4, k = ((n.1 : Nat) : Int) := by
    rcases sW_ok h with rfl | rfl | rfl | rfl
    · exact ⟨0, rfl⟩
    · exact ⟨1, rfl⟩
    · exact ⟨2, rfl⟩
    · exact ⟨3, rfl⟩
  obtain ⟨h1, h2, h3, h4, h5, h6, h7, _⟩ := div_ok n
  unfold sumL
  refine goR_run h1 h4 h5 b hb b.length 0 0 _ (by omega) ?_ (by simp) fun j => ?_
  · exact hb.app fun x hx => .inl (List.eq_of_mem_replicate hx)
  · have hz : rb (sW n.1) 0 j = 0 := by unfold rb; split <;> simp
    rw [hz, Nat.zero_add]
    by_cases hj : j < b.length
    · rw [getD_app_left hj]
      rcases hb.getD j with h | h <;> rw [h] <;> rfl
    · rw [getD_app_right (by omega), getD_none (r := b) (by omega), List.getD_eq_getElem?_getD, List.getElem?_replicate]
      split <;> rfl
end Go.Spec
namespace Go.Spec
open Go Go.Lift
def X_bits_remainder_0_0 (t5 : Int) (t7 : Int) (K : AExit → St → Prop) : Prop := K (.exit 0) ⟨un 5 ++ (.s (.val (.int .i64) t5) :: (un 1 ++ (.s (.val (.int .u32) t7) :: (un 56)))), [], 0⟩
def X_bits_remainder_2_0 (r0 : (List Int)) (K : AExit → St → Prop) : Prop := K (.exit 2) ⟨un 11 ++ (.s (.sl 0) :: (un 52)), [(0, .row (.int .u8) r0)], 1⟩
def X_slices_Concat_byte_byte_0_0 (t0 : (List (List Int))) (t3 : Int) (K : AExit → St → Prop) : Prop := K (.exit 0) ⟨.s (.val (.ro (.ro (.int .u8))) t0) :: (un 2 ++ (.s (.val (.int .i64) t3) :: (un 32))), [], 0⟩
def X_slices_Concat_byte_byte_2_0 (r0 : (List Int)) (K : AExit → St → Prop) : Prop := K (.exit 2) ⟨un 6 ++ (.s (.sl 0) :: (un 29)), [(0, .row (.int .u8) r0)], 1⟩
def X_slices_Equal_byte_byte_0_0 (t4 : Bool) (K : AExit → St → Prop) : Prop := K .ret ⟨un 4 ++ (.s (.val .bool t4) :: (un 21)), [], 0⟩
def X_slices_Equal_byte_byte_0_1  (K : AExit → St → Prop) : Prop := K (.exit 0) ⟨un 26, [], 0⟩
end Go.Spec
/- What the functions answer: sums. -/
namespace Go.Spec
open Go Go.Lift
def S_bits_divisor : Summ := { par := [.v (.int .i64)], res := [.v (.int .i64), .v (.int .u32)], esc := false, pre := fun _ => True, fn := fun x => (((sW x.1 : Int), (sG x.1 : Int), ()), ((), ())) }
def S_bits_Width : Summ := { par := [.v (.int .i64)], res := [.v (.int .i64)], esc := false, pre := fun _ => True, fn := fun x => (((sW x.1 : Int), ()), ((), ())) }
def S_bits_remainder : Summ := { par := [.v (.ro (.int .u8)), .v (.int .i64)], res := [.row (.int .u8)], esc := false, pre := fun x => Bits x.1 ∧ (x.1.length : Int) ≤ big ∧ sW x.2.1 ≠ 0, fn := fun x => ((sumL x.1 x.2.1, ()), ((), (), ())) }
def p_bits_remainder_0 (t5 t6 t7 : Int) (t18 : List Int) (t19 t20 : Int) : Prop := Bits t18 ∧ (t18.length : Int) ≤ big ∧ t19 = t18.length ∧ 0 ≤ t20 ∧ t20 ≤ t19 ∧ ∃ w g r : Nat, t5 = w ∧ t6 = g ∧ t7 = r ∧ 1 ≤ w ∧ w ≤ 24 ∧ g < 2 ^ w ∧ r < 2 ^ w
def m_bits_remainder_0 (_t5 _t6 _t7 : Int) (_t18 : List Int) (t19 t20 : Int) : Nat := (t19 - t20).toNat
def o_bits_remainder_0 (t5 t6 t7 : Int) (t18 : List Int) (_t19 t20 : Int) (K : AExit → St → Prop) : Prop := X_bits_remainder_0_0 t5 (runS t5.toNat t6.toNat t7.toNat (t18.drop t20.toNat) : Nat) K
def p_bits_remainder_2 (t5 t7 t47 t48 : Int) (r0 : List Int) : Prop := t47 = t5 ∧ 0 ≤ t48 ∧ t48 ≤ t47 ∧ t5 ≤ 24 ∧ (r0.length : Int) = t5 ∧ 0 ≤ t7 ∧ t7 < 4294967296
def m_bits_remainder_2 (_t5 _t7 t47 t48 : Int) (_r0 : List Int) : Nat := (t47 - t48).toNat
def o_bits_remainder_2 (t5 t7 _t47 t48 : Int) (r0 : List Int) (K : AExit → St → Prop) : Prop := X_bits_remainder_2_0 (fillFrom r0 t48.toNat fun i => ((t7.toNat / 2 ^ (t5.toNat - 1 - i) % 2 : Nat) : Int)) K
def nilL : List Int := []
def S_slices_Grow_byte_byte : Summ := { par := [.nl, .v (.int .i64)], res := [.row (.int .u8)], esc := false, pre := fun x => 0 ≤ x.2.1 ∧ x.2.1 ≤ 140737488355328, fn := fun _ => ((nilL, ()), ((), (), ())) }
def S_slices_Concat_byte_byte : Summ := { par := [.v (.ro (.ro (.int .u8)))], res := [.row (.int .u8)], esc := false, pre := fun x => List.length x.1 ≤ 1000 ∧ List.length (List.flatten x.1) ≤ 140737488355328, fn := fun x => ((List.flatten x.1, ()), ((), ())) }
def p_slices_Concat_byte_byte_0 (t0 : List (List Int)) (t3 : Int) (t9 : List (List Int)) (t10 t11 : Int) : Prop := t9 = t0 ∧ t10 = t0.length ∧ 0 ≤ t11 ∧ t11 ≤ t10 ∧ t0.length ≤ 1000 ∧ t0.flatten.length ≤ 140737488355328 ∧ t3 = (t0.take t11.toNat).flatten.length
def m_slices_Concat_byte_byte_0 (_t0 : List (List Int)) (_t3 : Int) (_t9 : List (List Int)) (t10 t11 : Int) : Nat := (t10 - t11).toNat
def o_slices_Concat_byte_byte_0 (t0 : List (List Int)) (_t3 : Int) (_t9 : List (List Int)) (_t10 _t11 : Int) (K : AExit → St → Prop) : Prop := X_slices_Concat_byte_byte_0_0 t0 t0.flatten.length K
def p_slices_Concat_byte_byte_2 (t25 : List (List Int)) (t26 t27 : Int) (r0 : List Int) : Prop := t26 = t25.length ∧ 0 ≤ t27 ∧ t27 ≤ t26 ∧ t25.length ≤ 1000 ∧ t25.flatten.length ≤ 140737488355328 ∧ r0 = (t25.take t27.toNat).flatten
def m_slices_Concat_byte_byte_2 (_t25 : List (List Int)) (t26 t27 : Int) (_r0 : List Int) : Nat := (t26 - t27).toNat
def o_slices_Concat_byte_byte_2 (t25 : List (List Int)) (_t26 _t27 : Int) (_r0 : List Int) (K : AExit → St → Prop) : Prop := X_slices_Concat_byte_byte_2_0 t25.flatten K
def S_slices_Equal_byte_byte : Summ := { par := [.v (.ro (.int .u8)), .v (.ro (.int .u8))], res := [.v .bool], esc := false, pre := fun x => (x.1.length : Int) ≤ big, fn := fun x => ((decide (x.1 = x.2.1), ()), ((), (), ())) }
def p_slices_Equal_byte_byte_0 (t0 t1 : List Int) (t12 t13 : Int) : Prop := t12 = t0.length ∧ 0 ≤ t13 ∧ t13 ≤ t12 ∧ (t0.length : Int) ≤ big ∧ t0.length = t1.length
def m_slices_Equal_byte_byte_0 (_t0 _t1 : List Int) (t12 t13 : Int) : Nat := (t12 - t13).toNat
def o_slices_Equal_byte_byte_0 (t0 t1 : List Int) (_t12 t13 : Int) (K : AExit → St → Prop) : Prop := condP (decide (t0.drop t13.toNat = t1.drop t13.toNat)) (X_slices_Equal_byte_byte_0_1 K) (X_slices_Equal_byte_byte_0_0 false K)
def S_bits_Sum : Summ := { par := [.v (.ro (.int .u8)), .v (.int .i64)], res := [.row (.int .u8), .v (.int .i64)], esc := false, pre := fun x => (x.1.length : Int) ≤ big ∧ ∀ y ∈ x.1, 0 ≤ y, fn := fun x => ((sumOf x.1 x.2.1, sumErr x.1 x.2.1, ()), ((), (), ())) }
def S_bits_Seal : Summ := { par := [.v (.ro (.int .u8)), .v (.int .i64)], res := [.row (.int .u8), .v (.int .i64)], esc := false, pre := fun x => (x.1.length : Int) ≤ big ∧ ∀ y ∈ x.1, 0 ≤ y, fn := fun x => ((sealOf x.1 x.2.1, sealErr x.1 x.2.1, ()), ((), (), ())) }
def S_bits_Open : Summ := { par := [.v (.ro (.int .u8)), .v (.int .i64)], res := [.row (.int .u8), .v .bool, .v (.int .i64)], esc := false, pre := fun x => (x.1.length : Int) ≤ big ∧ ∀ y ∈ x.1, 0 ≤ y, fn := fun x => ((openOf x.1 x.2.1, openOk x.1 x.2.1, sumErr x.1 x.2.1, ()), ((), (), ())) }
/-! the document's -/
def okD (t5 : List Int) (t6 : Int) : Prop := t6 ≤ 24 ∧ t5.length ≤ 20 ∧ ∀ x ∈ t5, 0 ≤ x ∧ x ≤ t6
end Go.Spec
