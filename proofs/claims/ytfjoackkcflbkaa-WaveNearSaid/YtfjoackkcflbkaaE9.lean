/- Lines for the functions of this seat; merged from texts of their own. -/
import Derived.Test.YtfjoackkcflbkaaE8
import Derived.Test.YtfjoackkcflbkaaLF
set_option linter.unusedVariables false
set_option linter.unusedSimpArgs false
/- Plain facts: what is sent is heard as it was; no point is nearer. -/
namespace Go.Spec
open Go Go.Lift
theorem leastN_att {p : Pt} (hp : okPt p = true) (k i : Nat) (v : Int) : ∀ n, leastN p k i v n = maxI ∨ ∃ m, m < n ∧ (outS k m).getD i 0 = v ∧ leastN p k i v n = far p (pointL (outS k m))
  | 0 => .inl rfl
  | n + 1 => by
    have hf := far_C hp k n
    rw [leastN, lesser_f]
    by_cases hv : (outS k n).getD i 0 = v
    · rw [if_pos hv]
      by_cases hlt : far p (pointL (outS k n)) < leastN p k i v n
      · rw [if_pos hlt]; exact .inr ⟨n, by omega, hv, rfl⟩
      · rw [if_neg hlt]
        rcases leastN_att hp k i v n with h | ⟨m, h1, h2, h3⟩
        · unfold maxI at h; omega
        · exact .inr ⟨m, by omega, h2, h3⟩
    · rw [if_neg hv]
      rcases leastN_att hp k i v n with h | ⟨m, h1, h2, h3⟩
      · exact .inl h
      · exact .inr ⟨m, by omega, h2, h3⟩
theorem best_least {p : Pt} (hp : okPt p = true) (k i : Nat) (v : Int) {n : Nat} (hn : 1 ≤ n) : (bestN p k n).1 ≤ leastN p k i v n := by
  obtain ⟨h1, h2⟩ := bestN_far hp k n hn
  rcases leastN_att hp k i v n with h | ⟨m, h3, _, h4⟩
  · rw [h, h1]
    have := far_C hp k (bestN p k n).2
    unfold maxI; omega
  · rw [h4]; exact h2 m h3
theorem sign_near {p : Pt} (hp : okPt p = true) (k i : Nat) {v u : Int} (hv : (near1 k p).getD i 0 = v) : leastN p k i v (2 ^ k) ≤ leastN p k i u (2 ^ k) := by
  have hn : 1 ≤ 2 ^ k := Nat.two_pow_pos k
  obtain ⟨h1, h2⟩ := bestN_far hp k (2 ^ k) hn
  have hb := bestN_lt (p := p) k (2 ^ k)
  have h3 := leastN_le hp k i v (m := (bestN p k (2 ^ k)).2) hv (n := 2 ^ k) (by omega)
  have h4 := best_least hp k i u hn
  omega
theorem flat_getD {α : Type} (f : α → List Int) (k : Nat) (hf : ∀ a, (f a).length = k) (d : α) : ∀ (l : List α) (i j : Nat), i < l.length → j < k → (l.map f).flatten.getD (i * k + j) 0 = (f (l.getD i d)).getD j 0
  | [], i, j, h, _ => by simp at h
  | a :: l, i, j, h, hj => by
    rw [List.map_cons, List.flatten_cons]
    cases i with
    | zero => rw [Nat.zero_mul, Nat.zero_add, getD_app_left (by rw [hf]; exact hj)]; rfl
    | succ i =>
      have e : (i + 1) * k + j = k + (i * k + j) := by rw [Nat.add_mul, Nat.one_mul]; omega
      rw [getD_app_right (by rw [hf, e]; omega), hf, e, Nat.add_sub_cancel_left, flat_getD f k hf d l i j (by simpa using h) hj]; rfl
theorem heardL_at {l : List Pt} {k i j : Nat} (hi : i < l.length) (hj : j < k) : (heardL l k).getD (i * k + j) 0 = leastN (l.getD i (0, 0, ())) k j 1 (2 ^ k) - leastN (l.getD i (0, 0, ())) k j 0 (2 ^ k) := by
  unfold heardL
  rw [flat_getD _ k (fun a => by unfold heard1; rw [seg_length, Nat.sub_zero]) (0, 0, ()) l i j hi hj]
  unfold heard1
  rw [seg_getD _ hj]
theorem nearL_at {l : List Pt} {k i j : Nat} (hi : i < l.length) (hj : j < k) : (nearL l k).getD (i * k + j) 0 = (near1 k (l.getD i (0, 0, ()))).getD j 0 := by
  unfold nearL
  exact flat_getD _ k (fun a => outS_length _ _) (0, 0, ()) l i j hi hj
theorem nearL_bits (l : List Pt) (k : Nat) : Bits (nearL l k) := by
  intro x hx
  unfold nearL at hx
  obtain ⟨c, hc, hx⟩ := List.mem_flatten.1 hx
  obtain ⟨p, _, rfl⟩ := List.mem_map.1 hc
  exact outS_bits _ _ x hx
theorem send_near (k : Nat) : ∀ l : List Pt, sendF k l.length (nearL l k) = l.map fun p => pointL (near1 k p)
  | [] => rfl
  | p :: l => by
    have e : nearL (p :: l) k = near1 k p ++ nearL l k := by simp [nearL]
    have hl : (near1 k p).length = k := outS_length _ _
    rw [List.length_cons, sendF, e, List.take_append_of_le_length (by omega), List.take_of_length_le (by omega), List.drop_append_of_le_length (by omega), List.drop_of_length_le (by omega), List.nil_append, send_near k l]
    rfl
/-! what is sent is heard as it was -/
def eqPt (a b : Pt) : Bool := a.1 == b.1 && a.2.1 == b.2.1
theorem eqPt_spec {a b : Pt} : eqPt a b = true ↔ a = b := by
  obtain ⟨a1, a2, ⟨⟩⟩ := a
  obtain ⟨b1, b2, ⟨⟩⟩ := b
  simp [eqPt]
theorem inj_fin : ∀ o : Fin 3, (List.range (2 ^ (2 * (o.1 + 1)))).all (fun m => (List.range (2 ^ (2 * (o.1 + 1)))).all fun n => !eqPt (pointL (outS (2 * (o.1 + 1)) m)) (pointL (outS (2 * (o.1 + 1)) n)) || m == n) = true := by decide +kernel
theorem pointL_inj {o : Int} (h : goodO o) {m n : Nat} (hm : m < 2 ^ o.toNat) (hn : n < 2 ^ o.toNat) (he : pointL (outS o.toNat m) = pointL (outS o.toNat n)) : m = n := by
  obtain ⟨q, e, _⟩ := goodO_fin h
  rw [e] at hm hn he
  have h1 := List.all_eq_true.1 (inj_fin q) m (List.mem_range.2 hm)
  have h2 := List.all_eq_true.1 h1 n (List.mem_range.2 hn)
  rw [eqPt_spec.2 he] at h2
  simpa using h2
theorem mul_self_zero {x : Int} (h : x * x = 0) : x = 0 := by
  rcases Int.mul_eq_zero.1 h with h | h <;> exact h
theorem mul_self_nn (x : Int) : 0 ≤ x * x := by
  rcases Int.le_total 0 x with h | h
  · exact Int.mul_nonneg h h
  · have : x * x = (-x) * (-x) := by rw [Int.neg_mul_neg]
    rw [this]; exact Int.mul_nonneg (by omega) (by omega)
theorem far_zero {a b : Pt} (h : far a b ≤ 0) : a = b := by
  obtain ⟨a1, a2, ⟨⟩⟩ := a
  obtain ⟨b1, b2, ⟨⟩⟩ := b
  have h : (a1 - b1) * (a1 - b1) + (a2 - b2) * (a2 - b2) ≤ 0 := h
  have h1 := mul_self_nn (a1 - b1)
  have h2 := mul_self_nn (a2 - b2)
  have h3 := mul_self_zero (x := a1 - b1) (by omega)
  have h4 := mul_self_zero (x := a2 - b2) (by omega)
  rw [show a1 = b1 by omega, show a2 = b2 by omega]
theorem far_self (a : Pt) : far a a = 0 := by unfold far; simp
theorem listsC_get {k : Nat} {c : List Int} (hb : Bits c) (hl : c.length = k) : ∃ m, m < 2 ^ k ∧ outS k m = c := by
  have h := only_one k (fun l => l) c hb hl
  have hm : c ∈ listsC k := by
    rcases Classical.em (c ∈ listsC k) with h1 | h1
    · exact h1
    · have : ((listsC k).flatMap fun x => if x = c then [x] else []) = [] := by
        rw [List.flatMap_eq_nil_iff]
        intro x hx
        refine if_neg fun e => ?_
        subst e; exact h1 hx
      rw [this] at h; cases h
  rw [listsC_eq] at hm
  obtain ⟨m, h1, h2⟩ := List.mem_map.1 hm
  exact ⟨m, List.mem_range.1 h1, h2⟩
theorem near_point {o : Int} (h : goodO o) {c : List Int} (hb : Bits c) (hl : c.length = o.toNat) : near1 o.toNat (pointL c) = c := by
  obtain ⟨m, h1, rfl⟩ := listsC_get hb hl
  have hok := okPt_pointL hb
  obtain ⟨h2, h3⟩ := bestN_far hok o.toNat (2 ^ o.toNat) (Nat.two_pow_pos _)
  have h4 := h3 m h1
  have hlt := bestN_lt (p := pointL (outS o.toNat m)) o.toNat (2 ^ o.toNat)
  rw [far_self, h2] at h4
  have := pointL_inj h h1 (by omega) (far_zero h4)
  unfold near1
  rw [← this]
theorem heard_point {o : Int} (h : goodO o) {c : List Int} (hb : Bits c) (hl : c.length = o.toNat) {j : Nat} (hj : j < o.toNat) :
    leastN (pointL c) o.toNat j 1 (2 ^ o.toNat) - leastN (pointL c) o.toNat j 0 (2 ^ o.toNat) ≠ 0 ∧ (leastN (pointL c) o.toNat j 1 (2 ^ o.toNat) - leastN (pointL c) o.toNat j 0 (2 ^ o.toNat) < 0 ↔ c.getD j 0 = 1) := by
  obtain ⟨m, h1, rfl⟩ := listsC_get hb hl
  have hok := okPt_pointL hb
  have hbit := hb.getD j
  -- the other bit's least is above 0
  have key : ∀ v u : Int, (outS o.toNat m).getD j 0 = v → u ≠ v → leastN (pointL (outS o.toNat m)) o.toNat j v (2 ^ o.toNat) ≤ 0 ∧ 0 < leastN (pointL (outS o.toNat m)) o.toNat j u (2 ^ o.toNat) := by
    intro v u hv hu
    have h2 := leastN_le hok o.toNat j v hv h1
    rw [far_self] at h2
    refine ⟨h2, ?_⟩
    rcases leastN_att hok o.toNat j u (2 ^ o.toNat) with h3 | ⟨n, h3, h4, h5⟩
    · rw [h3]; unfold maxI; omega
    · have h6 := (far_C hok o.toNat n).1
      rcases Int.lt_or_le 0 (leastN (pointL (outS o.toNat m)) o.toNat j u (2 ^ o.toNat)) with h7 | h7
      · exact h7
      · rw [h5] at h7
        have := pointL_inj h h1 h3 (far_zero h7)
        subst this
        exact (hu (h4.symm.trans hv)).elim
  rcases hbit with hb0 | hb1
  · have := key 0 1 hb0 (by decide)
    rw [hb0]; omega
  · have := key 1 0 hb1 (by decide)
    rw [hb1]; omega
theorem near_send {o : Int} (h : goodO o) : ∀ (f : Nat) (b : List Int), Bits b → b.length = f * o.toNat → nearL (sendF o.toNat f b) o.toNat = b
  | 0, b, _, hl => by
    have : b = [] := List.length_eq_zero_iff.1 (by simpa using hl)
    subst this; rfl
  | f + 1, b, hb, hl => by
    have hl' : b.length = f * o.toNat + o.toNat := by rw [hl, Nat.add_mul, Nat.one_mul]
    have e : nearL (sendF o.toNat (f + 1) b) o.toNat = near1 o.toNat (pointL (b.take o.toNat)) ++ nearL (sendF o.toNat f (b.drop o.toNat)) o.toNat := by simp [nearL, sendF]
    rw [e, near_point h (hb.take _) (by rw [List.length_take]; omega), near_send h f _ (hb.drop _) (by rw [List.length_drop]; omega), List.take_append_drop]
theorem sendF_length (k : Nat) : ∀ (f : Nat) (b : List Int), (sendF k f b).length = f
  | 0, _ => rfl
  | f + 1, b => by rw [sendF, List.length_cons, sendF_length k f]
theorem sendF_ok (k : Nat) : ∀ (f : Nat) (b : List Int), Bits b → ∀ p ∈ sendF k f b, okPt p = true
  | 0, _, _, p, h => by cases h
  | f + 1, b, hb, p, h => by
    rw [sendF] at h
    rcases List.mem_cons.1 h with rfl | h
    · exact okPt_pointL (hb.take _)
    · exact sendF_ok k f _ (hb.drop _) p h
theorem sendF_getD (k : Nat) : ∀ (f : Nat) (b : List Int) (i : Nat), i < f → (sendF k f b).getD i (0, 0, ()) = pointL ((b.drop (i * k)).take k)
  | 0, _, _, h => by omega
  | f + 1, b, i, h => by
    rw [sendF]
    cases i with
    | zero => rw [Nat.zero_mul, List.drop_zero]; rfl
    | succ i =>
      show (sendF k f (b.drop k)).getD i (0, 0, ()) = _
      rw [sendF_getD k f _ i (by omega), List.drop_drop, Nat.add_mul, Nat.one_mul, Nat.add_comm]
theorem heard_send {o : Int} (h : goodO o) {f : Nat} {b : List Int} (hb : Bits b) (hl : b.length = f * o.toNat) {q : Nat} (hq : q < b.length) :
    (heardL (sendF o.toNat f b) o.toNat).getD q 0 ≠ 0 ∧ ((heardL (sendF o.toNat f b) o.toNat).getD q 0 < 0 ↔ b.getD q 0 = 1) := by
  have hk : 0 < o.toNat := by rcases h with rfl | rfl | rfl <;> decide
  have hi : q / o.toNat < f := by
    rw [Nat.div_lt_iff_lt_mul hk]; omega
  have hj : q % o.toNat < o.toNat := Nat.mod_lt _ hk
  have e : q = q / o.toNat * o.toNat + q % o.toNat := by rw [Nat.mul_comm]; exact (Nat.div_add_mod q o.toNat).symm
  have hle : q / o.toNat * o.toNat + o.toNat ≤ b.length := by
    rw [hl]
    have := Nat.mul_le_mul_right o.toNat (show q / o.toNat + 1 ≤ f by omega)
    rw [Nat.add_mul, Nat.one_mul] at this
    exact this
  have h1 := heardL_at (l := sendF o.toNat f b) (k := o.toNat) (i := q / o.toNat) (j := q % o.toNat) (by rw [sendF_length]; exact hi) hj
  rw [← e, sendF_getD _ f b _ hi] at h1
  rw [h1]
  have h2 := heard_point h (c := (b.drop (q / o.toNat * o.toNat)).take o.toNat) ((hb.drop _).take _) (by rw [List.length_take, List.length_drop]; omega) hj
  rw [getD_take' hj, getD_drop, ← e] at h2
  exact h2
end Go.Spec
namespace Go.Spec
open Go Go.Lift
def X_keep_WaveNear_0_0 (t1 : Int) (t2 : (List (Int × (Int × Unit)))) (t6 : Bool) (K : AExit → St → Prop) : Prop := K .ret ⟨un 1 ++ (.s (.val (.int .i64) t1) :: (.s (.val (.ro (.pair (.int .i64) (.pair (.int .i64) .unit))) t2) :: (un 3 ++ (.s (.val .bool t6) :: (un 223))))), [], 0⟩
def X_keep_WaveNear_0_1 (t1 : Int) (t2 : (List (Int × (Int × Unit)))) (K : AExit → St → Prop) : Prop := K (.exit 0) ⟨un 1 ++ (.s (.val (.int .i64) t1) :: (.s (.val (.ro (.pair (.int .i64) (.pair (.int .i64) .unit))) t2) :: (un 227))), [], 0⟩
def X_keep_WaveNear_2_0 (t6 : Bool) (K : AExit → St → Prop) : Prop := K .ret ⟨un 6 ++ (.s (.val .bool t6) :: (un 223)), [], 0⟩
def X_keep_WaveNear_2_1  (K : AExit → St → Prop) : Prop := K (.exit 2) ⟨un 230, [], 0⟩
def X_keep_WaveNear_4_0 (t1 : Int) (t2 : (List (Int × (Int × Unit)))) (t6 : Bool) (t24 : Int) (r0 : (List Int)) (r1 : (List Int)) (r2 : (List (Int × (Int × Unit)))) (r3 : (List (Int × (Int × Unit)))) (K : AExit → St → Prop) : Prop := K .ret ⟨un 1 ++ (.s (.val (.int .i64) t1) :: (.s (.val (.ro (.pair (.int .i64) (.pair (.int .i64) .unit))) t2) :: (un 3 ++ (.s (.val .bool t6) :: (un 10 ++ (.s (.sl 0) :: (.s (.sl 1) :: (un 1 ++ (.s (.sl 2) :: (un 2 ++ (.s (.sl 3) :: (.s (.val (.int .i64) t24) :: (un 205))))))))))))), [(0, .row (.int .i64) r0), (1, .row (.int .u8) r1), (2, .row (.pair (.int .i64) (.pair (.int .i64) .unit)) r2), (3, .row (.pair (.int .i64) (.pair (.int .i64) .unit)) r3)], 4⟩
def X_keep_WaveNear_4_1 (t1 : Int) (t2 : (List (Int × (Int × Unit)))) (t24 : Int) (r0 : (List Int)) (r1 : (List Int)) (r2 : (List (Int × (Int × Unit)))) (r3 : (List (Int × (Int × Unit)))) (K : AExit → St → Prop) : Prop := K (.exit 4) ⟨un 1 ++ (.s (.val (.int .i64) t1) :: (.s (.val (.ro (.pair (.int .i64) (.pair (.int .i64) .unit))) t2) :: (un 14 ++ (.s (.sl 0) :: (.s (.sl 1) :: (un 1 ++ (.s (.sl 2) :: (un 2 ++ (.s (.sl 3) :: (.s (.val (.int .i64) t24) :: (un 205))))))))))), [(0, .row (.int .i64) r0), (1, .row (.int .u8) r1), (2, .row (.pair (.int .i64) (.pair (.int .i64) .unit)) r2), (3, .row (.pair (.int .i64) (.pair (.int .i64) .unit)) r3)], 4⟩
def X_keep_WaveNear_6_0 (t1 : Int) (t2 : (List (Int × (Int × Unit)))) (t6 : Bool) (t24 : Int) (r0 : (List Int)) (r1 : (List Int)) (r2 : (List (Int × (Int × Unit)))) (r3 : (List (Int × (Int × Unit)))) (K : AExit → St → Prop) : Prop := K .ret ⟨un 1 ++ (.s (.val (.int .i64) t1) :: (.s (.val (.ro (.pair (.int .i64) (.pair (.int .i64) .unit))) t2) :: (un 3 ++ (.s (.val .bool t6) :: (un 10 ++ (.s (.sl 0) :: (.s (.sl 1) :: (un 1 ++ (.s (.sl 2) :: (un 2 ++ (.s (.sl 3) :: (.s (.val (.int .i64) t24) :: (un 205))))))))))))), [(0, .row (.int .i64) r0), (1, .row (.int .u8) r1), (2, .row (.pair (.int .i64) (.pair (.int .i64) .unit)) r2), (3, .row (.pair (.int .i64) (.pair (.int .i64) .unit)) r3)], 4⟩
def X_keep_WaveNear_6_1 (t1 : Int) (t2 : (List (Int × (Int × Unit)))) (t24 : Int) (r0 : (List Int)) (r1 : (List Int)) (r2 : (List (Int × (Int × Unit)))) (r3 : (List (Int × (Int × Unit)))) (K : AExit → St → Prop) : Prop := K (.exit 6) ⟨un 1 ++ (.s (.val (.int .i64) t1) :: (.s (.val (.ro (.pair (.int .i64) (.pair (.int .i64) .unit))) t2) :: (un 14 ++ (.s (.sl 0) :: (.s (.sl 1) :: (un 1 ++ (.s (.sl 2) :: (un 2 ++ (.s (.sl 3) :: (.s (.val (.int .i64) t24) :: (un 205))))))))))), [(0, .row (.int .i64) r0), (1, .row (.int .u8) r1), (2, .row (.pair (.int .i64) (.pair (.int .i64) .unit)) r2), (3, .row (.pair (.int .i64) (.pair (.int .i64) .unit)) r3)], 4⟩
end Go.Spec
/- What the functions answer: the law WaveNear. -/
namespace Go.Spec
open Go Go.Lift
def S_keep_WaveNear : Summ := { par := [.v (.ro (.int .u8)), .v (.int .i64), .v (.ro (.pair (.int .i64) (.pair (.int .i64) .unit)))], res := [.v .bool], esc := false, pre := fun x => (List.length x.1 : Int) ≤ big ∧ (∀ y ∈ x.1, 0 ≤ y) ∧ (List.length x.2.2.1 : Int) ≤ big, fn := fun _ => ((true, ()), ((), (), (), ())) }
def p_keep_WaveNear_0 (_t1 : Int) (_t2 : List Pt) (t9 t16 : Int) (r0 r1 : List Int) : Prop := t9 = r1.length ∧ r0.length = r1.length ∧ t9 ≤ 4096 ∧ 0 ≤ t16 ∧ t16 ≤ t9 ∧ ∀ q, q < r0.length → r1.getD q 0 ≠ 0 ∧ (r1.getD q 0 < 0 ↔ r0.getD q 0 = 1)
def m_keep_WaveNear_0 (_t1 : Int) (_t2 : List Pt) (t9 t16 : Int) (_r0 _r1 : List Int) : Nat := (t9 - t16).toNat
def o_keep_WaveNear_0 (t1 : Int) (t2 : List Pt) (_t9 _t16 : Int) (_r0 _r1 : List Int) (K : AExit → St → Prop) : Prop := X_keep_WaveNear_0_1 t1 t2 K
def nearC (t1 : Int) (t2 : List Pt) (t24 : Int) (r0 r1 : List Int) (r2 r3 : List Pt) : Prop := hearB t2 t1 = true ∧ r0 = heardL t2 t1.toNat ∧ r1 = nearL t2 t1.toNat ∧ r2 = (t2.map fun p => pointL (near1 t1.toNat p)) ∧ r3 = pointsC t1.toNat ∧ 0 ≤ t24 ∧ t24 ≤ t2.length
def p_keep_WaveNear_2 (t1 : Int) (t2 : List Pt) (t24 : Int) (r0 r1 : List Int) (r2 r3 : List Pt) : Prop := nearC t1 t2 t24 r0 r1 r2 r3
def m_keep_WaveNear_2 (_t1 : Int) (t2 : List Pt) (t24 : Int) (_r0 _r1 : List Int) (_r2 _r3 : List Pt) : Nat := (t2.length - t24).toNat
def o_keep_WaveNear_2 (_t1 : Int) (_t2 : List Pt) (_t24 : Int) (_r0 _r1 : List Int) (_r2 _r3 : List Pt) (K : AExit → St → Prop) : Prop := X_keep_WaveNear_2_1 K
def p_keep_WaveNear_4 (t1 : Int) (t2 : List Pt) (t24 t25 : Int) (r0 r1 : List Int) (r2 r3 : List Pt) : Prop := nearC t1 t2 t24 r0 r1 r2 r3 ∧ t24 < t2.length ∧ 0 ≤ t25 ∧ t25 ≤ r3.length
def m_keep_WaveNear_4 (_t1 : Int) (_t2 : List Pt) (_t24 t25 : Int) (_r0 _r1 : List Int) (_r2 r3 : List Pt) : Nat := (r3.length - t25).toNat
def o_keep_WaveNear_4 (t1 : Int) (t2 : List Pt) (t24 _t25 : Int) (r0 r1 : List Int) (r2 r3 : List Pt) (K : AExit → St → Prop) : Prop := X_keep_WaveNear_4_1 t1 t2 t24 r0 r1 r2 r3 K
def p_keep_WaveNear_6 (t1 : Int) (t2 : List Pt) (t24 t26 : Int) (r0 r1 : List Int) (r2 r3 : List Pt) : Prop := nearC t1 t2 t24 r0 r1 r2 r3 ∧ t24 < t2.length ∧ 0 ≤ t26 ∧ t26 ≤ t1
def m_keep_WaveNear_6 (t1 : Int) (_t2 : List Pt) (_t24 t26 : Int) (_r0 _r1 : List Int) (_r2 _r3 : List Pt) : Nat := (t1 - t26).toNat
def o_keep_WaveNear_6 (t1 : Int) (t2 : List Pt) (t24 _t26 : Int) (r0 r1 : List Int) (r2 r3 : List Pt) (K : AExit → St → Prop) : Prop := X_keep_WaveNear_6_1 t1 t2 t24 r0 r1 r2 r3 K
end Go.Spec
