/- Lines for the functions of this seat; merged from texts of their own. -/
import Derived.Test.YtefajmghpgiekaaLF
set_option linter.unusedVariables false
set_option linter.unusedSimpArgs false
/- Plain facts on lists and numbers. -/
namespace Go.Spec
open Go Go.Lift

/-- The values of a function from i up to n. -/
def seg {α : Type} (f : Nat → α) (i n : Nat) : List α := (List.range (n - i)).map fun j => f (i + j)
theorem seg_cons {α : Type} (f : Nat → α) {i n : Nat} (h : i < n) : seg f i n = f i :: seg f (i + 1) n := by
  unfold seg
  obtain ⟨d, hd⟩ : ∃ d, n - i = d + 1 := ⟨n - i - 1, by omega⟩
  have hd' : n - (i + 1) = d := by omega
  rw [hd, hd', List.range_succ_eq_map]
  simp only [List.map_cons, Nat.add_zero, List.map_map, List.cons.injEq, true_and]
  refine List.map_congr_left fun j _ => ?_
  simp only [Function.comp]
  congr 1
  omega
theorem seg_nil {α : Type} (f : Nat → α) {i n : Nat} (h : n ≤ i) : seg f i n = [] := by
  unfold seg
  rw [Nat.sub_eq_zero_of_le h]; rfl
theorem seg_length {α : Type} (f : Nat → α) (i n : Nat) : (seg f i n).length = n - i := by simp [seg]
/-- The rest of a list, filled. -/
def fillFrom {α : Type} (r : List α) (i : Nat) (f : Nat → α) : List α := r.take i ++ seg f i r.length
theorem fill_step {α : Type} (r : List α) {i : Nat} (f : Nat → α) (h : i < r.length) : fillFrom (r.set i (f i)) (i + 1) f = fillFrom r i f := by
  unfold fillFrom
  rw [List.length_set, seg_cons f h, List.take_add_one, List.take_set_of_le (Nat.le_refl _), List.getElem?_set_self h]
  simp
theorem fill_end {α : Type} (r : List α) {i : Nat} (f : Nat → α) (h : r.length ≤ i) : fillFrom r i f = r := by
  unfold fillFrom
  rw [seg_nil f h, List.take_of_length_le h, List.append_nil]
theorem fill_zero {α : Type} (r : List α) (f : Nat → α) : fillFrom r 0 f = seg f 0 r.length := by simp [fillFrom]

/-! ### bits -/
/-- What is wrong with bits. -/
def badBit (x : Int) : Bool := !(x == 0) && !(x == 1)
def bitsErr (b : List Int) : Int := if b.any badBit then 1 else if 4096 < b.length then 2 else 0
/-- The first k bits of byte q, the first the highest. -/
def pk (b : List Int) (q : Nat) : Nat → Int
  | 0 => 0
  | k + 1 => pk b q k * 2 + b.getD (8 * q + k) 0
def packL (b : List Int) : List Int := seg (fun q => pk b q 8) 0 ((b.length + 7) / 8)
def bitAt (s : ByteArray) (i : Nat) : Int := (strBytes s).getD (i / 8) 0 / 2 ^ (7 - i % 8) % 2
theorem bitsErr_ok {b : List Int} (h : bitsErr b = 0) : (∀ x ∈ b, x = 0 ∨ x = 1) ∧ b.length ≤ 4096 := by
  unfold bitsErr at h
  split at h
  · omega
  · rename_i h1
    split at h
    · omega
    · refine ⟨fun x hx => ?_, by omega⟩
      simp only [Bool.not_eq_true, List.any_eq_false] at h1
      have := h1 x hx
      simp only [badBit, Bool.and_eq_false_iff, Bool.not_eq_false', beq_iff_eq] at this
      exact this
theorem pk_bounds {b : List Int} (h : ∀ x ∈ b, x = 0 ∨ x = 1) (q : Nat) : ∀ k, 0 ≤ pk b q k ∧ pk b q k < 2 ^ k
  | 0 => by simp [pk]
  | k + 1 => by
    have ih := pk_bounds h q k
    have : b.getD (8 * q + k) 0 = 0 ∨ b.getD (8 * q + k) 0 = 1 := by
      rw [List.getD_eq_getElem?_getD]
      cases e : b[8 * q + k]? with
      | none => simp
      | some x => simpa using h x (List.mem_of_getElem? e)
    simp only [pk]
    rw [Int.pow_succ]
    omega
/-! ### the receiver of blocks -/
abbrev Flags := List Bool × List Bool × Unit
abbrev Shot := Int × Int × Bool × ByteArray × Unit
def badShot (x : Shot) : Bool := decide (x.1 < 0) || decide (x.1 > 7) || decide (x.2.1 < 0) || decide (x.2.1 > 3)
def takeTurn (v : Bool) (r : Flags) (x : Shot) : Flags := if x.2.2.1 = r.1.getD x.1.toNat false then r else (r.1.set x.1.toNat x.2.2.1, r.2.1.set x.1.toNat v, ())
/-- v: what a block that is open is marked with. -/
def takeOf (v : Bool) (r : Flags) (x : Shot) (heard : Bool) : (ByteArray × Bool × Bool × Int) × Flags :=
  if badShot x then ((⟨#[]⟩, false, false, 1), r)
  else if (x.2.2.2.1.size : Int) > 1500 then ((⟨#[]⟩, false, false, 2), r)
  else
    let r1 := takeTurn v r x
    if r1.2.1.getD x.1.toNat false = !v then ((⟨#[]⟩, false, true, 0), r1)
    else if heard then ((x.2.2.2.1, true, true, 0), (r1.1, r1.2.1.set x.1.toNat (!v), ()))
    else ((⟨#[]⟩, false, false, 0), r1)
def flip2 (r : Flags) : Flags := (r.1, r.2.1.map not, ())
theorem map_set {α β : Type} (f : α → β) (l : List α) (i : Nat) (x : α) : (l.set i x).map f = (l.map f).set i (f x) := by
  rw [List.map_set]
theorem getD_not (l : List Bool) (i : Nat) (h : i < l.length) : (l.map not).getD i false = !(l.getD i false) := by
  simp [List.getD_eq_getElem?_getD, List.getElem?_map, List.getElem?_eq_getElem h]
theorem turn_flip {r : Flags} {x : Shot} : flip2 (takeTurn true r x) = takeTurn false (flip2 r) x := by
  unfold takeTurn flip2
  simp only
  split <;> simp [List.map_set]
theorem turn_length {v : Bool} {r : Flags} {x : Shot} : (takeTurn v r x).2.1.length = r.2.1.length := by
  unfold takeTurn
  split <;> simp
theorem take_flip {r : Flags} {x : Shot} {heard : Bool} (h : r.2.1.length = 8) : takeOf false (flip2 r) x heard = ((takeOf true r x heard).1, flip2 (takeOf true r x heard).2) := by
  unfold takeOf
  split
  · rfl
  · rename_i hb
    split
    · rfl
    · have hx : x.1.toNat < 8 := by
        simp only [badShot, Bool.not_eq_true, Bool.or_eq_false_iff, decide_eq_false_iff_not] at hb
        omega
      have h1 : (takeTurn false (flip2 r) x).2.1.getD x.1.toNat false = !((takeTurn true r x).2.1.getD x.1.toNat false) := by
        rw [← turn_flip]
        exact getD_not _ _ (by rw [turn_length, h]; exact hx)
      simp only
      rw [h1, ← turn_flip]
      cases hq : (takeTurn true r x).2.1.getD x.1.toNat false <;> cases heard <;> simp [flip2, List.map_set]
theorem take_length {v : Bool} {r : Flags} {x : Shot} {heard : Bool} : (takeOf v r x heard).2.2.1.length = r.2.1.length := by
  unfold takeOf
  split
  · rfl
  · split
    · rfl
    · simp only
      split
      · exact turn_length
      · split
        · simp [turn_length]
        · exact turn_length
end Go.Spec
namespace Go.Spec
open Go Go.Lift
def X_R_SameInts_0_0 (t4 : Bool) (K : AExit → St → Prop) : Prop := K .ret ⟨un 4 ++ (.s (.val .bool t4) :: (un 21)), [], 0⟩
def X_R_SameInts_0_1  (K : AExit → St → Prop) : Prop := K (.exit 0) ⟨un 26, [], 0⟩
def X_bits_Check_0_0 (t0 : (List Int)) (t2 : Int) (K : AExit → St → Prop) : Prop := K .ret ⟨.s (.val (.ro (.int .u8)) t0) :: (un 1 ++ (.s (.val (.int .i64) t2) :: (un 14))), [], 0⟩
def X_bits_Check_0_1 (t0 : (List Int)) (K : AExit → St → Prop) : Prop := K (.exit 0) ⟨.s (.val (.ro (.int .u8)) t0) :: (un 16), [], 0⟩
def X_bits_Pack_0_0 (r0 : (List Int)) (K : AExit → St → Prop) : Prop := K (.exit 0) ⟨un 5 ++ (.s (.sl 0) :: (un 34)), [(0, .row (.int .u8) r0)], 1⟩
def X_bits_Unpack_0_0 (r0 : (List Int)) (K : AExit → St → Prop) : Prop := K (.exit 0) ⟨un 6 ++ (.s (.sl 0) :: (un 33)), [(0, .row (.int .u8) r0)], 1⟩
end Go.Spec
/- What the functions answer: bits and texts, the receiver of blocks. -/
namespace Go.Spec
open Go Go.Lift

def big : Int := 2 ^ 50
/-! SameInts, SameBits -/
def S_R_SameInts : Summ := { par := [.v (.ro (.int .i64)), .v (.ro (.int .i64))], res := [.v .bool], esc := false, pre := fun x => (x.1.length : Int) ≤ big, fn := fun x => ((decide (x.1 = x.2.1), ()), ((), (), ())) }
def p_R_SameInts_0 (t0 t1 : List Int) (t5 : Int) : Prop := t0.length = t1.length ∧ 0 ≤ t5 ∧ t5 ≤ t0.length ∧ (t0.length : Int) ≤ big
def m_R_SameInts_0 (t0 _t1 : List Int) (t5 : Int) : Nat := t0.length - t5.toNat
def o_R_SameInts_0 (t0 t1 : List Int) (t5 : Int) (K : AExit → St → Prop) : Prop := condP (decide (t0.drop t5.toNat = t1.drop t5.toNat)) (X_R_SameInts_0_1 K) (X_R_SameInts_0_0 false K)
def S_R_SameBits : Summ := { par := [.v (.ro (.int .u8)), .v (.ro (.int .u8))], res := [.v .bool], esc := false, pre := fun x => (x.1.length : Int) ≤ big, fn := fun x => ((decide (x.1 = x.2.1), ()), ((), (), ())) }
/-! Version -/
def versionB (v : Int) : Bool := decide (0 ≤ v) && decide (v ≤ 3)
def S_R_Version : Summ := { par := [.v (.int .i64)], res := [.v .bool], esc := false, pre := fun _ => True, fn := fun x => ((versionB x.1, ()), ((), ())) }
/-! Check, Bits -/
def S_bits_Check : Summ := { par := [.v (.ro (.int .u8))], res := [.v (.int .i64)], esc := false, pre := fun x => (x.1.length : Int) ≤ big ∧ ∀ y ∈ x.1, 0 ≤ y, fn := fun x => ((bitsErr x.1, ()), ((), ())) }
def p_bits_Check_0 (t0 t5 : List Int) (t6 t7 : Int) : Prop := t0 = t5 ∧ t6 = t5.length ∧ 0 ≤ t7 ∧ t7 ≤ t6 ∧ t6 ≤ big
def m_bits_Check_0 (_t0 _t5 : List Int) (t6 t7 : Int) : Nat := (t6 - t7).toNat
def o_bits_Check_0 (t0 t5 : List Int) (_t6 t7 : Int) (K : AExit → St → Prop) : Prop := condP ((t5.drop t7.toNat).any fun x => decide (x > 1)) (X_bits_Check_0_0 t0 1 K) (X_bits_Check_0_1 t0 K)
def S_R_Bits : Summ := { par := [.v (.ro (.int .u8))], res := [.v (.int .i64)], esc := false, pre := fun x => (x.1.length : Int) ≤ big, fn := fun x => ((bitsErr x.1, ()), ((), ())) }
/-! BitAt, Unpack -/
def S_R_BitAt : Summ := { par := [.v .str, .v (.int .i64)], res := [.v (.int .u8)], esc := false, pre := fun x => 0 ≤ x.2.1 ∧ x.2.1 < 8 * x.1.size ∧ (x.1.size : Int) ≤ big, fn := fun x => ((bitAt x.1 x.2.1.toNat, ()), ((), (), ())) }
def unpackErr (s : ByteArray) (n : Int) : Int := if n < 0 ∨ n > 8 * s.size then 1 else if n > 4096 then 2 else 0
def unpackL (s : ByteArray) (n : Int) : List Int := if unpackErr s n = 0 then seg (bitAt s) 0 n.toNat else []
def S_R_Unpack : Summ := { par := [.v .str, .v (.int .i64)], res := [.row (.int .u8), .v (.int .i64)], esc := false, pre := fun x => (x.1.size : Int) ≤ big, fn := fun x => ((unpackL x.1 x.2.1, unpackErr x.1 x.2.1, ()), ((), (), ())) }
def S_bits_Unpack : Summ := S_R_Unpack
def p_bits_Unpack_0 (t0 : ByteArray) (t22 t23 : Int) (r0 : List Int) : Prop := 0 ≤ t23 ∧ t23 ≤ t22 ∧ t22 ≤ 8 * t0.size ∧ (t0.size : Int) ≤ big ∧ (r0.length : Int) = t22
def m_bits_Unpack_0 (_t0 : ByteArray) (t22 t23 : Int) (_r0 : List Int) : Nat := (t22 - t23).toNat
def o_bits_Unpack_0 (t0 : ByteArray) (_t22 t23 : Int) (r0 : List Int) (K : AExit → St → Prop) : Prop := X_bits_Unpack_0_0 (fillFrom r0 t23.toNat (bitAt t0)) K
/-! Pack -/
def packS (b : List Int) : ByteArray := strOfNums (packL b)
def S_R_Pack : Summ := { par := [.v (.ro (.int .u8))], res := [.v .str], esc := false, pre := fun x => bitsErr x.1 = 0, fn := fun x => ((packS x.1, ()), ((), ())) }
def S_bits_Pack : Summ := { par := [.v (.ro (.int .u8))], res := [.v .str, .v (.int .i64)], esc := false, pre := fun x => (x.1.length : Int) ≤ big ∧ ∀ y ∈ x.1, 0 ≤ y, fn := fun x => ((if bitsErr x.1 = 0 then packS x.1 else ⟨#[]⟩, bitsErr x.1, ()), ((), ())) }
def packTo (b : List Int) (i : Nat) : List Int := seg (fun q => pk (b.take i) q 8) 0 ((b.length + 7) / 8)
def p_bits_Pack_0 (t18 : List Int) (t19 t20 : Int) (r0 : List Int) : Prop := bitsErr t18 = 0 ∧ t19 = t18.length ∧ 0 ≤ t20 ∧ t20 ≤ t19 ∧ r0 = packTo t18 t20.toNat
def m_bits_Pack_0 (_t18 : List Int) (t19 t20 : Int) (_r0 : List Int) : Nat := (t19 - t20).toNat
def o_bits_Pack_0 (t18 : List Int) (_t19 _t20 : Int) (_r0 : List Int) (K : AExit → St → Prop) : Prop := X_bits_Pack_0_0 (packL t18) K
def S_law_BitsPack : Summ := { par := [.v (.ro (.int .u8)), .v .str, .v (.int .i64)], res := [.v .bool], esc := false, pre := fun x => (x.1.length : Int) ≤ big ∧ (∀ y ∈ x.1, 0 ≤ y) ∧ (x.2.1.size : Int) ≤ big, fn := fun _ => ((true, ()), ((), (), (), ())) }
/-! the receiver of blocks -/
def flagsT : Ty := .pair (.arr 8 .bool) (.pair (.arr 8 .bool) .unit)
def noFlags : List Bool := List.replicate 8 false
def S_harq_NewReceiver : Summ := { par := [], res := [.box (.pair (.arr 8 .bool) (.pair (.arr 8 .bool) .unit))], esc := false, pre := fun _ => True, fn := fun _ => (((noFlags, noFlags, ()), ()), ()) }
def S_R_NewTakes : Summ := { par := [], res := [.box (.pair (.arr 8 .bool) (.pair (.arr 8 .bool) .unit))], esc := false, pre := fun _ => True, fn := fun _ => (((noFlags, List.replicate 8 true, ()), ()), ()) }
def S_harq_Receiver_Take : Summ := { par := [.box (.pair (.arr 8 .bool) (.pair (.arr 8 .bool) .unit)), .v (.pair (.int .i64) (.pair (.int .i64) (.pair .bool (.pair .str .unit)))), .v .bool], res := [.v .str, .v .bool, .v .bool, .v (.int .i64)], esc := false, pre := fun _ => True, fn := fun x => (((takeOf true x.1 x.2.1 x.2.2.1).1.1, (takeOf true x.1 x.2.1 x.2.2.1).1.2.1, (takeOf true x.1 x.2.1 x.2.2.1).1.2.2.1, (takeOf true x.1 x.2.1 x.2.2.1).1.2.2.2, ()), ((takeOf true x.1 x.2.1 x.2.2.1).2, (), (), ())) }
def S_R_Takes_Take : Summ := { par := [.box (.pair (.arr 8 .bool) (.pair (.arr 8 .bool) .unit)), .v (.pair (.int .i64) (.pair (.int .i64) (.pair .bool (.pair .str .unit)))), .v .bool], res := [.v .str, .v .bool, .v .bool, .v (.int .i64)], esc := false, pre := fun _ => True, fn := fun x => (((takeOf false x.1 x.2.1 x.2.2.1).1.1, (takeOf false x.1 x.2.1 x.2.2.1).1.2.1, (takeOf false x.1 x.2.1 x.2.2.1).1.2.2.1, (takeOf false x.1 x.2.1 x.2.2.1).1.2.2.2, ()), ((takeOf false x.1 x.2.1 x.2.2.1).2, (), (), ())) }
abbrev StepT := Int × Int × Int × Bool × ByteArray × Unit
def S_law_HarqTakes : Summ := { par := [.v (.ro (.pair (.int .i64) (.pair (.int .i64) (.pair (.int .i64) (.pair .bool (.pair .str .unit))))))], res := [.v .bool], esc := false, pre := fun x => (x.1.length : Int) ≤ big, fn := fun _ => ((true, ()), ((), ())) }
end Go.Spec
