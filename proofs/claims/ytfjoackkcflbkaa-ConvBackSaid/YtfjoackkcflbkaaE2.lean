/- Lines for the functions of this seat; merged from texts of their own. -/
import Derived.Test.YtfjoackkcflbkaaP2
import Derived.Test.YtfjoackkcflbkaaLF
set_option linter.unusedVariables false
set_option linter.unusedSimpArgs false
/- Plain facts: the noise; lists added. -/
namespace Go.Spec
open Go Go.Lift
theorem seg_map {α : Type} {f g : Nat → α} {i n : Nat} (h : ∀ k, i ≤ k → k < n → f k = g k) : seg f i n = seg g i n := by
  unfold seg
  refine List.map_congr_left fun j hj => ?_
  have := List.mem_range.1 hj
  exact h _ (by omega) (by omega)
theorem seg_getElem? {α : Type} (f : Nat → α) (n j : Nat) : (seg f 0 n)[j]? = if j < n then some (f j) else none := by
  unfold seg
  rw [List.getElem?_map]
  split
  · rename_i h; rw [List.getElem?_range (by omega)]; simp
  · rename_i h; rw [List.getElem?_eq_none (by simpa using h)]; rfl
theorem seg_getD (f : Nat → Int) {n j : Nat} (h : j < n) : (seg f 0 n).getD j 0 = f j := by
  rw [List.getD_eq_getElem?_getD, seg_getElem?, if_pos h]; rfl
theorem seg_snoc {α : Type} (f : Nat → α) {n : Nat} : seg f 0 (n + 1) = seg f 0 n ++ [f n] := by
  unfold seg
  simp [List.range_succ]
/-- A list's places from i on, each turned. -/
def mapFrom (r : List Int) (i : Nat) (g : Nat → Int → Int) : List Int := r.take i ++ seg (fun k => g k (r.getD k 0)) i r.length
theorem mapFrom_step (r : List Int) {i : Nat} (g : Nat → Int → Int) (h : i < r.length) : mapFrom (r.set i (g i (r.getD i 0))) (i + 1) g = mapFrom r i g := by
  unfold mapFrom
  rw [List.length_set, seg_cons _ h, List.take_add_one, List.take_set_of_le (Nat.le_refl _), List.getElem?_set_self h]
  simp only [Option.toList_some, List.append_assoc, List.singleton_append]
  congr 2
  refine seg_map fun k hk _ => ?_
  rw [List.getD_eq_getElem?_getD, List.getElem?_set_ne (by omega), ← List.getD_eq_getElem?_getD]
theorem mapFrom_end (r : List Int) {i : Nat} (g : Nat → Int → Int) (h : r.length ≤ i) : mapFrom r i g = r := by
  unfold mapFrom
  rw [seg_nil _ h, List.take_of_length_le h, List.append_nil]
theorem mapFrom_zero (r : List Int) (g : Nat → Int → Int) : mapFrom r 0 g = seg (fun k => g k (r.getD k 0)) 0 r.length := by simp [mapFrom]
/-- Two lists, place by place. -/
def addL (a b : List Int) : List Int := seg (fun k => (a.getD k 0 + b.getD k 0) % 2) 0 a.length
def Bits (l : List Int) : Prop := ∀ x ∈ l, x = 0 ∨ x = 1
theorem Bits.getD {l : List Int} (h : Bits l) (i : Nat) : l.getD i 0 = 0 ∨ l.getD i 0 = 1 := by
  rw [List.getD_eq_getElem?_getD]
  cases e : l[i]? with
  | none => simp
  | some x => simpa using h x (List.mem_of_getElem? e)
theorem Bits.seg {f : Nat → Int} {i n : Nat} (h : ∀ k, f k = 0 ∨ f k = 1) : Bits (seg f i n) := by
  intro x hx
  unfold Go.Spec.seg at hx
  obtain ⟨j, _, rfl⟩ := List.mem_map.1 hx
  exact h _
theorem mod2 (x : Int) : x % 2 = 0 ∨ x % 2 = 1 := by omega
theorem bitsErr_bits {b : List Int} (h : Bits b) (hl : b.length ≤ 4096) : bitsErr b = 0 := by
  unfold bitsErr
  rw [if_neg, if_neg (by omega)]
  simp only [Bool.not_eq_true, List.any_eq_false]
  intro x hx
  rcases h x hx with rfl | rfl <;> decide
theorem bitsErr_len {b : List Int} (h : Bits b) : bitsErr b = if 4096 < b.length then 2 else 0 := by
  unfold bitsErr
  rw [if_neg]
  simp only [Bool.not_eq_true, List.any_eq_false]
  intro x hx
  rcases h x hx with rfl | rfl <;> decide
/-! ### the noise -/
def stepX (x : Nat) : Nat := x / 2 + (x / 8 + x) % 2 * 2 ^ 30
def stepY (y : Nat) : Nat := y / 2 + (y / 8 + y / 4 + y / 2 + y) % 2 * 2 ^ 30
def iter (f : Nat → Nat) : Nat → Nat → Nat
  | 0, x => x
  | n + 1, x => iter f n (f x)
theorem iter_step (f : Nat → Nat) (n x : Nat) : iter f (n + 1) x = iter f n (f x) := rfl
theorem iter_31 (f : Nat → Nat) (x : Nat) : iter f 31 x = iter f 30 (f x) := iter_step f 30 x
theorem iter_succ (f : Nat → Nat) : ∀ (n x : Nat), iter f (n + 1) x = f (iter f n x)
  | 0, _ => rfl
  | n + 1, x => iter_succ f n (f x)
theorem iter_add (f : Nat → Nat) (m : Nat) : ∀ (n x : Nat), iter f (m + n) x = iter f m (iter f n x)
  | 0, _ => rfl
  | n + 1, x => iter_add f m n (f x)
def seqX (k : Nat) : Int := (iter stepX k 1 % 2 : Nat)
def seqY (s k : Nat) : Int := (iter stepY k s % 2 : Nat)
def noiseL (seed n : Int) : List Int := seg (fun i => (seqX (1600 + i) + seqY seed.toNat (1600 + i)) % 2) 0 n.toNat
theorem step_lt {x b : Nat} (h : x < 2 ^ 31) (hb : b < 2) : x / 2 + b * 2 ^ 30 < 2 ^ 31 := by omega
theorem stepX_lt {x : Nat} (h : x < 2 ^ 31) : stepX x < 2 ^ 31 := step_lt h (by omega)
theorem stepY_lt {x : Nat} (h : x < 2 ^ 31) : stepY x < 2 ^ 31 := step_lt h (by omega)
theorem iter_lt {f : Nat → Nat} (hf : ∀ x, x < 2 ^ 31 → f x < 2 ^ 31) : ∀ {n x : Nat}, x < 2 ^ 31 → iter f n x < 2 ^ 31
  | 0, _, h => h
  | n + 1, x, h => iter_lt (n := n) (x := f x) hf (hf x h)
/-- A register that is moved: its places are what comes out. -/
theorem iter_bit {f : Nat → Nat} {b : Nat → Nat} (hf : ∀ x, f x = x / 2 + b x * 2 ^ 30) : ∀ (j x : Nat), j ≤ 30 → iter f j x % 2 = x / 2 ^ j % 2
  | 0, x, _ => by simp [iter]
  | j + 1, x, h => by
    show iter f j (f x) % 2 = _
    rw [iter_bit hf j (f x) (by omega), hf]
    obtain ⟨d, hd⟩ : ∃ d, 30 = j + 1 + d := ⟨30 - (j + 1), by omega⟩
    have e : x / 2 + b x * 2 ^ 30 = x / 2 + 2 ^ j * (2 * (b x * 2 ^ d)) := by
      rw [hd, Nat.pow_add, Nat.pow_succ]
      congr 1
      simp only [Nat.mul_comm, Nat.mul_left_comm, Nat.mul_assoc]
    rw [e, Nat.add_mul_div_left _ _ (Nat.two_pow_pos j), Nat.div_div_eq_div_mul, ← Nat.pow_succ', Nat.add_mul_mod_self_left]
theorem seqX_rec (k : Nat) : seqX (k + 31) = (seqX (k + 3) + seqX k) % 2 := by
  have hf : ∀ x, stepX x = x / 2 + (x / 8 + x) % 2 * 2 ^ 30 := fun _ => rfl
  unfold seqX
  rw [Nat.add_comm k 31, Nat.add_comm k 3, iter_add, iter_add]
  have hr : iter stepX k 1 < 2 ^ 31 := iter_lt (fun _ h => stepX_lt h) (by decide)
  generalize iter stepX k 1 = r at *
  have h31 : iter stepX 31 r % 2 = (r / 8 + r) % 2 := by
    rw [iter_31, iter_bit hf 30 _ (by omega), hf, Nat.add_mul_div_right _ _ (by decide), Nat.div_eq_of_lt (show r / 2 < 2 ^ 30 by omega), Nat.zero_add]
    omega
  have h3 := iter_bit hf 3 r (by omega)
  rw [h31, h3]
  omega
theorem seqY_rec (s k : Nat) (hs : s < 2 ^ 31) : seqY s (k + 31) = (seqY s (k + 3) + seqY s (k + 2) + seqY s (k + 1) + seqY s k) % 2 := by
  have hf : ∀ x, stepY x = x / 2 + (x / 8 + x / 4 + x / 2 + x) % 2 * 2 ^ 30 := fun _ => rfl
  unfold seqY
  rw [Nat.add_comm k 31, Nat.add_comm k 3, Nat.add_comm k 2, Nat.add_comm k 1, iter_add, iter_add, iter_add, iter_add]
  have hr : iter stepY k s < 2 ^ 31 := iter_lt (fun _ h => stepY_lt h) hs
  generalize iter stepY k s = r at *
  have h31 : iter stepY 31 r % 2 = (r / 8 + r / 4 + r / 2 + r) % 2 := by
    rw [iter_31, iter_bit hf 30 _ (by omega), hf, Nat.add_mul_div_right _ _ (by decide), Nat.div_eq_of_lt (show r / 2 < 2 ^ 30 by omega), Nat.zero_add]
    omega
  have h3 := iter_bit hf 3 r (by omega)
  have h2 := iter_bit hf 2 r (by omega)
  have h1 := iter_bit hf 1 r (by omega)
  rw [h31, h3, h2, h1]
  omega
theorem seqX_low (k : Nat) (h : k ≤ 30) : seqX k = if k = 0 then 1 else 0 := by
  have hf : ∀ x, stepX x = x / 2 + (x / 8 + x) % 2 * 2 ^ 30 := fun _ => rfl
  unfold seqX
  rw [iter_bit hf k 1 h]
  cases k with
  | zero => rfl
  | succ k =>
    have : 1 / 2 ^ (k + 1) = 0 := Nat.div_eq_of_lt (Nat.one_lt_two_pow (by omega))
    rw [this]; simp
theorem seqY_low (s k : Nat) (h : k ≤ 30) : seqY s k = ((s / 2 ^ k % 2 : Nat) : Int) := by
  have hf : ∀ x, stepY x = x / 2 + (x / 8 + x / 4 + x / 2 + x) % 2 * 2 ^ 30 := fun _ => rfl
  unfold seqY
  rw [iter_bit hf k s h]
theorem seqX_bit (k : Nat) : seqX k = 0 ∨ seqX k = 1 := by unfold seqX; omega
theorem seqY_bit (s k : Nat) : seqY s k = 0 ∨ seqY s k = 1 := by unfold seqY; omega
theorem noise_bits (seed n : Int) : Bits (noiseL seed n) := Bits.seg fun _ => mod2 _
theorem noise_length (seed n : Int) : (noiseL seed n).length = n.toNat := by unfold noiseL; rw [seg_length]; omega
/-! ### a list that goes on by its own last places -/
def ext (f : List Int → Int) : List Int → Nat → List Int
  | l, 0 => l
  | l, n + 1 => ext f (l ++ [f l]) n
theorem ext_seg {f : List Int → Int} {g : Nat → Int} {m : Nat} (h : ∀ k, m ≤ k → f (seg g 0 k) = g k) : ∀ (n k : Nat), m ≤ k → ext f (seg g 0 k) n = seg g 0 (k + n)
  | 0, k, _ => rfl
  | n + 1, k, hk => by
    show ext f (seg g 0 k ++ [f (seg g 0 k)]) n = _
    rw [h k hk, ← seg_snoc, ext_seg h n (k + 1) (by omega)]
    congr 1
    omega
def fX (l : List Int) : Int := (l.getD (l.length - 28) 0 + l.getD (l.length - 31) 0) % 2
def fY (l : List Int) : Int := (l.getD (l.length - 28) 0 + l.getD (l.length - 29) 0 + l.getD (l.length - 30) 0 + l.getD (l.length - 31) 0) % 2
theorem fX_seq (k : Nat) (h : 31 ≤ k) : fX (seg seqX 0 k) = seqX k := by
  unfold fX
  rw [seg_length, seg_getD _ (by omega), seg_getD _ (by omega)]
  obtain ⟨d, rfl⟩ : ∃ d, k = d + 31 := ⟨k - 31, by omega⟩
  rw [seqX_rec, show d + 31 - 0 - 28 = d + 3 from by omega, show d + 31 - 0 - 31 = d from by omega]
theorem fY_seq (s k : Nat) (hs : s < 2 ^ 31) (h : 31 ≤ k) : fY (seg (seqY s) 0 k) = seqY s k := by
  unfold fY
  rw [seg_length, seg_getD _ (by omega), seg_getD _ (by omega), seg_getD _ (by omega), seg_getD _ (by omega)]
  obtain ⟨d, rfl⟩ : ∃ d, k = d + 31 := ⟨k - 31, by omega⟩
  rw [seqY_rec _ _ hs, show d + 31 - 0 - 28 = d + 3 from by omega, show d + 31 - 0 - 29 = d + 2 from by omega, show d + 31 - 0 - 30 = d + 1 from by omega, show d + 31 - 0 - 31 = d from by omega]
end Go.Spec
namespace Go.Spec
open Go Go.Lift
def X_bits_Noise_0_0 (r0 : (List Int)) (K : AExit → St → Prop) : Prop := K (.exit 0) ⟨un 8 ++ (.s (.sl 0) :: (un 60)), [(0, .row (.int .u8) r0)], 1⟩
def X_bits_Cover_0_0 (t8 : Int) (r0 : (List Int)) (K : AExit → St → Prop) : Prop := K (.exit 0) ⟨un 7 ++ (.s (.sl 0) :: (.s (.val (.int .i64) t8) :: (un 31))), [(0, .row (.int .u8) r0)], 1⟩
def X_R_Added_0_0 (r0 : (List Int)) (K : AExit → St → Prop) : Prop := K (.exit 0) ⟨un 5 ++ (.s (.sl 0) :: (un 21)), [(0, .row (.int .u8) r0)], 1⟩
end Go.Spec
/- What the functions answer: the noise. -/
namespace Go.Spec
open Go Go.Lift
def badSeed (seed n : Int) : Bool := decide (seed < 0) || decide (seed > 2147483647) || decide (n < 0) || decide (n > 4096)
def S_bits_Noise : Summ := { par := [.v (.int .i64), .v (.int .i64)], res := [.row (.int .u8), .v (.int .i64)], esc := false, pre := fun _ => True, fn := fun x => ((if badSeed x.1 x.2.1 then [] else noiseL x.1 x.2.1, if badSeed x.1 x.2.1 then 1 else 0, ()), ((), (), ())) }
def runOut (x y i n : Nat) : List Int := seg (fun k => ((iter stepX (k - i) x + iter stepY (k - i) y) % 2 : Nat)) (max i 1600) n
def p_bits_Noise_0 (t6 t7 t29 t30 : Int) (r0 : List Int) : Prop := 0 ≤ t6 ∧ t6 < 2147483648 ∧ 0 ≤ t7 ∧ t7 < 2147483648 ∧ 0 ≤ t30 ∧ t30 ≤ t29 ∧ t29 ≤ 5696 ∧ (r0.length : Int) ≤ t30
def m_bits_Noise_0 (_t6 _t7 t29 t30 : Int) (_r0 : List Int) : Nat := (t29 - t30).toNat
def o_bits_Noise_0 (t6 t7 t29 t30 : Int) (r0 : List Int) (K : AExit → St → Prop) : Prop := X_bits_Noise_0_0 (r0 ++ runOut t6.toNat t7.toNat t30.toNat t29.toNat) K
def coverErr (b : List Int) (seed : Int) : Int := if bitsErr b = 0 then (if badSeed seed b.length then 1 else 0) else bitsErr b
def coverL (b : List Int) (seed : Int) : List Int := if coverErr b seed = 0 then addL (noiseL seed b.length) b else []
def S_bits_Cover : Summ := { par := [.v (.ro (.int .u8)), .v (.int .i64)], res := [.row (.int .u8), .v (.int .i64)], esc := false, pre := fun x => (x.1.length : Int) ≤ big ∧ ∀ y ∈ x.1, 0 ≤ y, fn := fun x => ((coverL x.1 x.2.1, coverErr x.1 x.2.1, ()), ((), (), ())) }
def p_bits_Cover_0 (t0 : List Int) (_t8 t23 t24 : Int) (r0 : List Int) : Prop := Bits t0 ∧ Bits r0 ∧ t23 = r0.length ∧ r0.length ≤ t0.length ∧ 0 ≤ t24 ∧ t24 ≤ t23 ∧ (r0.length : Int) ≤ big
def m_bits_Cover_0 (_t0 : List Int) (_t8 t23 t24 : Int) (_r0 : List Int) : Nat := (t23 - t24).toNat
def o_bits_Cover_0 (t0 : List Int) (t8 _t23 t24 : Int) (r0 : List Int) (K : AExit → St → Prop) : Prop := X_bits_Cover_0_0 t8 (mapFrom r0 t24.toNat fun k x => (x + t0.getD k 0) % 2) K
/-! the document's -/
def S_R_Noise : Summ := { par := [.v (.int .i64), .v (.int .i64)], res := [.row (.int .u8)], esc := false, pre := fun x => 0 ≤ x.1 ∧ x.1 ≤ 2147483647 ∧ 0 ≤ x.2.1 ∧ x.2.1 ≤ 4096, fn := fun x => ((noiseL x.1 x.2.1, ()), ((), (), ())) }
def seedTo (r : List Int) (k : Nat) (s : Int) : List Int := r.take k ++ seg (fun j => s / 2 ^ (j - k) % 2) k 31 ++ r.drop 31
def S_R_Added : Summ := { par := [.v (.ro (.int .u8)), .v (.ro (.int .u8))], res := [.row (.int .u8)], esc := false, pre := fun x => Bits x.1 ∧ Bits x.2.1 ∧ x.1.length ≤ x.2.1.length ∧ (x.1.length : Int) ≤ 1000000, fn := fun x => ((addL x.1 x.2.1, ()), ((), (), ())) }
def p_R_Added_0 (t0 t1 : List Int) (t6 : Int) (r0 : List Int) : Prop := Bits t0 ∧ Bits t1 ∧ t0.length ≤ t1.length ∧ (t0.length : Int) ≤ 1000000 ∧ 0 ≤ t6 ∧ t6 ≤ t0.length ∧ (r0.length : Int) ≤ t6
def m_R_Added_0 (t0 _t1 : List Int) (t6 : Int) (_r0 : List Int) : Nat := (t0.length - t6).toNat
def o_R_Added_0 (t0 t1 : List Int) (t6 : Int) (r0 : List Int) (K : AExit → St → Prop) : Prop := X_R_Added_0_0 (r0 ++ seg (fun k => (t0.getD k 0 + t1.getD k 0) % 2) t6.toNat t0.length) K
def S_law_BitsNoise : Summ := { par := [.v (.ro (.int .u8)), .v (.int .i64), .v (.int .i64)], res := [.v .bool], esc := false, pre := fun x => (x.1.length : Int) ≤ big ∧ (∀ y ∈ x.1, 0 ≤ y), fn := fun _ => ((true, ()), ((), (), (), ())) }
end Go.Spec
