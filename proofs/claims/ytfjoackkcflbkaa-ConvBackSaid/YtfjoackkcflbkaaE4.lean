/- Lines for the functions of this seat; merged from texts of their own. -/
import Derived.Test.YtfjoackkcflbkaaP6
import Derived.Test.YtfjoackkcflbkaaLF
set_option linter.unusedVariables false
set_option linter.unusedSimpArgs false
/- Plain facts: the code with a memory. -/
namespace Go.Spec
open Go Go.Lift
/-- bit k of a number -/
def bt (r : Int) (k : Nat) : Int := r / 2 ^ k % 2
def parI (m : Int) : Int := (bt m 0 + bt m 1 + bt m 2 + bt m 3 + bt m 4 + bt m 5 + bt m 6) % 2
def thr (r : Int) : List Int := [(bt r 6 + bt r 5 + bt r 4 + bt r 3 + bt r 0) % 2, (bt r 6 + bt r 4 + bt r 3 + bt r 1 + bt r 0) % 2, (bt r 6 + bt r 5 + bt r 4 + bt r 2 + bt r 0) % 2]
def encF (r : Int) : List Int → List Int
  | [] => []
  | x :: xs => thr (r / 2 + 64 * x) ++ encF (r / 2 + 64 * x) xs
def encL (b : List Int) : List Int := encF 0 (b ++ List.replicate 6 0)
def encErr (b : List Int) : Int := if bitsErr b = 0 then (if 400 < b.length then 2 else 0) else bitsErr b
def encOf (b : List Int) : List Int := if encErr b = 0 then encL b else []
def softB (l : List Int) : Bool := l.all fun x => decide (-100000 ≤ x) && decide (x ≤ 100000)
def scoreF (n : Int) : List Int → List Int → Int
  | [], _ => n
  | c :: cs, ss => scoreF (IntKind.i64.wrap (if c = 1 then n - ss.headD 0 else n + ss.headD 0)) cs ss.tail
def scoreErr (b s : List Int) : Int := if encErr b ≠ 0 then encErr b else if softB s = true ∧ (encL b).length = s.length then 0 else 1
def scoreOf (b s : List Int) : Int := if scoreErr b s = 0 then scoreF 0 (encL b) s else 0
def atB (b : List Int) (i : Int) : Int := if i < 0 ∨ (b.length : Int) ≤ i then 0 else b.getD i.toNat 0
/-- the register ahead of step i -/
def regAt (b : List Int) (i : Int) : Int := 64 * atB b (i - 1) + 32 * atB b (i - 2) + 16 * atB b (i - 3) + 8 * atB b (i - 4) + 4 * atB b (i - 5) + 2 * atB b (i - 6) + atB b (i - 7)
theorem encF_length : ∀ (l : List Int) (r : Int), (encF r l).length = 3 * l.length
  | [], _ => rfl
  | x :: xs, r => by simp only [encF, List.length_append, encF_length xs, thr, List.length_cons, List.length_nil]; omega
theorem encL_length (b : List Int) : (encL b).length = 3 * b.length + 18 := by unfold encL; rw [encF_length]; simp; omega
theorem thr_bits (r : Int) : Bits (thr r) := by
  intro x hx
  simp only [thr, List.mem_cons, List.not_mem_nil, or_false] at hx
  rcases hx with rfl | rfl | rfl <;> exact mod2 _
theorem encF_bits : ∀ (l : List Int) (r : Int), Bits (encF r l)
  | [], _ => fun x hx => by simp [encF] at hx
  | x :: xs, r => (thr_bits _).app (encF_bits xs _)
theorem atB_bits {b : List Int} (h : Bits b) (i : Int) : atB b i = 0 ∨ atB b i = 1 := by
  unfold atB; split
  · exact .inl rfl
  · exact h.getD _
theorem encErr_ok {b : List Int} (h : encErr b = 0) : Bits b ∧ b.length ≤ 400 := by
  unfold encErr at h
  split at h
  · rename_i h0
    split at h
    · omega
    · exact ⟨(bitsErr_ok h0).1, by omega⟩
  · omega
theorem encOf_bad {b : List Int} (h : encErr b ≠ 0) : encOf b = [] := by unfold encOf; rw [if_neg h]
theorem pad_getD {b : List Int} {i : Nat} : (b ++ List.replicate 6 (0 : Int)).getD i 0 = atB b i := by
  unfold atB
  by_cases h : i < b.length
  · rw [if_neg (by omega), getD_app_left h]; rfl
  · rw [if_pos (by omega), getD_app_right (by omega)]
    rw [List.getD_eq_getElem?_getD, List.getElem?_replicate]
    split <;> rfl
theorem thr_at (c0 c1 c2 c3 c4 c5 c6 : Int) (h0 : c0 = 0 ∨ c0 = 1) (h1 : c1 = 0 ∨ c1 = 1) (h2 : c2 = 0 ∨ c2 = 1) (h3 : c3 = 0 ∨ c3 = 1) (h4 : c4 = 0 ∨ c4 = 1) (h5 : c5 = 0 ∨ c5 = 1) (h6 : c6 = 0 ∨ c6 = 1) :
    thr (64 * c0 + 32 * c1 + 16 * c2 + 8 * c3 + 4 * c4 + 2 * c5 + c6) = [(c0 + c1 + c2 + c3 + c6) % 2, (c0 + c2 + c3 + c5 + c6) % 2, (c0 + c1 + c2 + c4 + c6) % 2] := by
  rcases h0 with rfl | rfl <;> rcases h1 with rfl | rfl <;> rcases h2 with rfl | rfl <;> rcases h3 with rfl | rfl <;> rcases h4 with rfl | rfl <;> rcases h5 with rfl | rfl <;> rcases h6 with rfl | rfl <;> decide
theorem regAt_step {b : List Int} (hb : Bits b) (i : Int) : regAt b i / 2 + 64 * atB b i = regAt b (i + 1) := by
  unfold regAt
  rw [show i + 1 - 1 = i by omega, show i + 1 - 2 = i - 1 by omega, show i + 1 - 3 = i - 2 by omega, show i + 1 - 4 = i - 3 by omega, show i + 1 - 5 = i - 4 by omega, show i + 1 - 6 = i - 5 by omega, show i + 1 - 7 = i - 6 by omega]
  have := atB_bits hb (i - 7)
  omega
theorem regAt_zero (b : List Int) : regAt b 0 = 0 := by
  unfold regAt atB; simp
theorem and_low : ∀ a : Fin 128, ∀ r : Fin 128, bits .and .i64 (a.1 : Int) (r.1 : Int) = ((a.1 &&& r.1 : Nat) : Int) := by decide +kernel
end Go.Spec
namespace Go.Spec
open Go Go.Lift
def X_conv_three_1_0_0 (t4 : Int) (r0 : Int) (K : AExit → St → Prop) : Prop := K (.exit 0) ⟨un 4 ++ (.s (.val (.int .u8) t4) :: (un 13)), [(0, .box (.int .i64) r0)], 2⟩
def X_conv_encode_0_0 (r0 : (List Int)) (K : AExit → St → Prop) : Prop := K (.exit 0) ⟨un 3 ++ (.s (.sl 0) :: (un 30)), [(0, .row (.int .u8) r0)], 1⟩
def X_conv_Soft_0_0 (t2 : Bool) (K : AExit → St → Prop) : Prop := K .ret ⟨un 2 ++ (.s (.val .bool t2) :: (un 15)), [], 0⟩
def X_conv_Soft_0_1  (K : AExit → St → Prop) : Prop := K (.exit 0) ⟨un 18, [], 0⟩
def X_conv_Score_0_0 (t8 : Int) (K : AExit → St → Prop) : Prop := K (.exit 0) ⟨un 8 ++ (.s (.val (.int .i64) t8) :: (un 40)), [], 0⟩
def X_R_Soft_0_0 (t2 : Bool) (K : AExit → St → Prop) : Prop := K .ret ⟨un 2 ++ (.s (.val .bool t2) :: (un 19)), [], 0⟩
def X_R_Soft_0_1  (K : AExit → St → Prop) : Prop := K (.exit 0) ⟨un 22, [], 0⟩
end Go.Spec
/- What the functions answer: the code with a memory. -/
namespace Go.Spec
open Go Go.Lift
def S_conv_three_1 : Summ := { par := [.v (.int .i64), .box (.int .i64)], res := [.v (.int .u8)], esc := false, pre := fun x => 0 ≤ x.1 ∧ x.1 < 128 ∧ 0 ≤ x.2.1 ∧ x.2.1 < 128, fn := fun x => ((parI (bits .and .i64 x.2.1 x.1), ()), ((), x.2.1, ())) }
def p_conv_three_1_0 (t4 t5 _r0 : Int) : Prop := (t4 = 0 ∨ t4 = 1) ∧ 0 ≤ t5 ∧ t5 < 128
def m_conv_three_1_0 (_t4 t5 _r0 : Int) : Nat := t5.toNat
def o_conv_three_1_0 (t4 t5 r0 : Int) (K : AExit → St → Prop) : Prop := X_conv_three_1_0_0 ((t4 + parI t5) % 2) r0 K
def S_conv_three : Summ := { par := [.v (.int .i64)], res := [.v (.arr 3 (.int .u8))], esc := false, pre := fun x => 0 ≤ x.1 ∧ x.1 < 128, fn := fun x => ((thr x.1, ()), ((), ())) }
def S_conv_encode : Summ := { par := [.v (.ro (.int .u8))], res := [.row (.int .u8)], esc := false, pre := fun x => Bits x.1 ∧ x.1.length ≤ 400, fn := fun x => ((encL x.1, ()), ((), ())) }
def p_conv_encode_0 (t0 : List Int) (t4 t9 t10 : Int) (r0 : List Int) : Prop := Bits t0 ∧ t0.length ≤ 400 ∧ 0 ≤ t4 ∧ t4 < 128 ∧ t9 = t0.length + 6 ∧ 0 ≤ t10 ∧ t10 ≤ t9 ∧ r0.length = 3 * t10
def m_conv_encode_0 (_t0 : List Int) (_t4 t9 t10 : Int) (_r0 : List Int) : Nat := (t9 - t10).toNat
def o_conv_encode_0 (t0 : List Int) (t4 _t9 t10 : Int) (r0 : List Int) (K : AExit → St → Prop) : Prop := X_conv_encode_0_0 (r0 ++ encF t4 ((t0 ++ List.replicate 6 0).drop t10.toNat)) K
def S_conv_Encode : Summ := { par := [.v (.ro (.int .u8))], res := [.row (.int .u8), .v (.int .i64)], esc := false, pre := fun x => (x.1.length : Int) ≤ big ∧ ∀ y ∈ x.1, 0 ≤ y, fn := fun x => ((encOf x.1, encErr x.1, ()), ((), ())) }
def S_conv_Soft : Summ := { par := [.v (.ro (.int .i64))], res := [.v .bool], esc := false, pre := fun x => (x.1.length : Int) ≤ big, fn := fun x => ((softB x.1, ()), ((), ())) }
def p_conv_Soft_0 (t5 : List Int) (t6 t7 : Int) : Prop := t6 = t5.length ∧ 0 ≤ t7 ∧ t7 ≤ t6 ∧ (t5.length : Int) ≤ big
def m_conv_Soft_0 (_t5 : List Int) (t6 t7 : Int) : Nat := (t6 - t7).toNat
def o_conv_Soft_0 (t5 : List Int) (_t6 t7 : Int) (K : AExit → St → Prop) : Prop := condP (softB (t5.drop t7.toNat)) (X_conv_Soft_0_1 K) (X_conv_Soft_0_0 false K)
def S_conv_Score : Summ := { par := [.v (.ro (.int .u8)), .v (.ro (.int .i64))], res := [.v (.int .i64), .v (.int .i64)], esc := false, pre := fun x => ((x.1.length : Int) ≤ big ∧ ∀ y ∈ x.1, 0 ≤ y) ∧ (x.2.1.length : Int) ≤ big, fn := fun x => ((scoreOf x.1 x.2.1, scoreErr x.1 x.2.1, ()), ((), (), ())) }
def p_conv_Score_0 (t1 : List Int) (_t8 t30 t31 : Int) (r0 : List Int) : Prop := Bits r0 ∧ softB t1 = true ∧ t30 = r0.length ∧ 0 ≤ t31 ∧ t31 ≤ t30 ∧ t1.length = r0.length ∧ (r0.length : Int) ≤ big
def m_conv_Score_0 (_t1 : List Int) (_t8 t30 t31 : Int) (_r0 : List Int) : Nat := (t30 - t31).toNat
def o_conv_Score_0 (t1 : List Int) (t8 _t30 t31 : Int) (r0 : List Int) (K : AExit → St → Prop) : Prop := X_conv_Score_0_0 (scoreF t8 (r0.drop t31.toNat) (t1.drop t31.toNat)) K
/-! the document's -/
def S_R_Coded_1 : Summ := { par := [.v (.int .i64), .box (.ro (.int .u8))], res := [.v (.int .u8)], esc := true, pre := fun _ => True, fn := fun x => ((atB x.2.1 x.1, ()), ((), x.2.1, ())) }
def S_R_Coded : Summ := { par := [.v (.ro (.int .u8))], res := [.row (.int .u8)], esc := false, pre := fun x => Bits x.1 ∧ x.1.length ≤ 100000, fn := fun x => ((encL x.1, ()), ((), ())) }
def S_R_Soft : Summ := { par := [.v (.ro (.int .i64))], res := [.v .bool], esc := false, pre := fun x => (x.1.length : Int) ≤ big, fn := fun x => ((softB x.1, ()), ((), ())) }
def p_R_Soft_0 (t0 : List Int) (t3 : Int) : Prop := 0 ≤ t3 ∧ t3 ≤ t0.length ∧ (t0.length : Int) ≤ big
def m_R_Soft_0 (t0 : List Int) (t3 : Int) : Nat := (t0.length - t3).toNat
def o_R_Soft_0 (t0 : List Int) (t3 : Int) (K : AExit → St → Prop) : Prop := condP (softB (t0.drop t3.toNat)) (X_R_Soft_0_1 K) (X_R_Soft_0_0 false K)
def S_R_Score : Summ := { par := [.v (.ro (.int .u8)), .v (.ro (.int .i64))], res := [.v (.int .i64)], esc := false, pre := fun x => x.1.length ≤ x.2.1.length ∧ (x.1.length : Int) ≤ big, fn := fun x => ((scoreF 0 x.1 x.2.1, ()), ((), (), ())) }
def S_law_ConvEncodes : Summ := { par := [.v (.ro (.int .u8)), .v (.ro (.int .i64))], res := [.v .bool], esc := false, pre := fun x => ((x.1.length : Int) ≤ big ∧ ∀ y ∈ x.1, 0 ≤ y) ∧ (x.2.1.length : Int) ≤ big, fn := fun _ => ((true, ()), ((), (), ())) }
end Go.Spec
