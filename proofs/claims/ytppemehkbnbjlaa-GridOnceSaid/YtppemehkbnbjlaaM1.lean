/- Plain facts on lists and numbers. -/
import Derived.Test.YtppemehkbnbjlaaLF
set_option linter.unusedVariables false
set_option linter.unusedSimpArgs false
namespace Go.Spec
open Go Go.Lift

/-- The values of a function from i up to n. -/
def seg {α : Type} (f : Nat → α) (i n : Nat) : List α := (List.range (n - i)).map fun j => f (i + j)
theorem seg_cons {α : Type} (f : Nat → α) {i n : Nat} (h : i < n) : seg f i n = f i :: seg f (i + 1) n := by
  unfold seg
  obtain ⟨d, hd⟩ : ∃ d, n - i = d + 1 := ⟨n - i - 1, by omega⟩
  have hd' : n - (i + 1) = d := by omega
  rw [hd, hd', List.range_succ_eq_map]
  simp only [List.map_cons, Nat.add_zero, List.map_map, List.cons.injEq, true_and]
  refine List.map_congr_left fun j _ => ?_
  simp only [Function.comp]
  congr 1
  omega
theorem seg_nil {α : Type} (f : Nat → α) {i n : Nat} (h : n ≤ i) : seg f i n = [] := by
  unfold seg
  rw [Nat.sub_eq_zero_of_le h]; rfl
theorem seg_length {α : Type} (f : Nat → α) (i n : Nat) : (seg f i n).length = n - i := by simp [seg]
/-- The rest of a list, filled. -/
def fillFrom {α : Type} (r : List α) (i : Nat) (f : Nat → α) : List α := r.take i ++ seg f i r.length
theorem fill_step {α : Type} (r : List α) {i : Nat} (f : Nat → α) (h : i < r.length) : fillFrom (r.set i (f i)) (i + 1) f = fillFrom r i f := by
  unfold fillFrom
  rw [List.length_set, seg_cons f h, List.take_add_one, List.take_set_of_le (Nat.le_refl _), List.getElem?_set_self h]
  simp
theorem fill_end {α : Type} (r : List α) {i : Nat} (f : Nat → α) (h : r.length ≤ i) : fillFrom r i f = r := by
  unfold fillFrom
  rw [seg_nil f h, List.take_of_length_le h, List.append_nil]
theorem fill_zero {α : Type} (r : List α) (f : Nat → α) : fillFrom r 0 f = seg f 0 r.length := by simp [fillFrom]

/-! ### bits -/
/-- What is wrong with bits. -/
def badBit (x : Int) : Bool := !(x == 0) && !(x == 1)
def bitsErr (b : List Int) : Int := if b.any badBit then 1 else if 4096 < b.length then 2 else 0
/-- The first k bits of byte q, the first the highest. -/
def pk (b : List Int) (q : Nat) : Nat → Int
  | 0 => 0
  | k + 1 => pk b q k * 2 + b.getD (8 * q + k) 0
def packL (b : List Int) : List Int := seg (fun q => pk b q 8) 0 ((b.length + 7) / 8)
def bitAt (s : ByteArray) (i : Nat) : Int := (strBytes s).getD (i / 8) 0 / 2 ^ (7 - i % 8) % 2
theorem bitsErr_ok {b : List Int} (h : bitsErr b = 0) : (∀ x ∈ b, x = 0 ∨ x = 1) ∧ b.length ≤ 4096 := by
  unfold bitsErr at h
  split at h
  · omega
  · rename_i h1
    split at h
    · omega
    · refine ⟨fun x hx => ?_, by omega⟩
      simp only [Bool.not_eq_true, List.any_eq_false] at h1
      have := h1 x hx
      simp only [badBit, Bool.and_eq_false_iff, Bool.not_eq_false', beq_iff_eq] at this
      exact this
theorem pk_bounds {b : List Int} (h : ∀ x ∈ b, x = 0 ∨ x = 1) (q : Nat) : ∀ k, 0 ≤ pk b q k ∧ pk b q k < 2 ^ k
  | 0 => by simp [pk]
  | k + 1 => by
    have ih := pk_bounds h q k
    have : b.getD (8 * q + k) 0 = 0 ∨ b.getD (8 * q + k) 0 = 1 := by
      rw [List.getD_eq_getElem?_getD]
      cases e : b[8 * q + k]? with
      | none => simp
      | some x => simpa using h x (List.mem_of_getElem? e)
    simp only [pk]
    rw [Int.pow_succ]
    omega
/-! ### the receiver of blocks -/
abbrev Flags := List Bool × List Bool × Unit
abbrev Shot := Int × Int × Bool × ByteArray × Unit
def badShot (x : Shot) : Bool := decide (x.1 < 0) || decide (x.1 > 7) || decide (x.2.1 < 0) || decide (x.2.1 > 3)
def takeTurn (v : Bool) (r : Flags) (x : Shot) : Flags := if x.2.2.1 = r.1.getD x.1.toNat false then r else (r.1.set x.1.toNat x.2.2.1, r.2.1.set x.1.toNat v, ())
/-- v: what a block that is open is marked with. -/
def takeOf (v : Bool) (r : Flags) (x : Shot) (heard : Bool) : (ByteArray × Bool × Bool × Int) × Flags :=
  if badShot x then ((⟨#[]⟩, false, false, 1), r)
  else if (x.2.2.2.1.size : Int) > 1500 then ((⟨#[]⟩, false, false, 2), r)
  else
    let r1 := takeTurn v r x
    if r1.2.1.getD x.1.toNat false = !v then ((⟨#[]⟩, false, true, 0), r1)
    else if heard then ((x.2.2.2.1, true, true, 0), (r1.1, r1.2.1.set x.1.toNat (!v), ()))
    else ((⟨#[]⟩, false, false, 0), r1)
def flip2 (r : Flags) : Flags := (r.1, r.2.1.map not, ())
theorem map_set {α β : Type} (f : α → β) (l : List α) (i : Nat) (x : α) : (l.set i x).map f = (l.map f).set i (f x) := by
  rw [List.map_set]
theorem getD_not (l : List Bool) (i : Nat) (h : i < l.length) : (l.map not).getD i false = !(l.getD i false) := by
  simp [List.getD_eq_getElem?_getD, List.getElem?_map, List.getElem?_eq_getElem h]
theorem turn_flip {r : Flags} {x : Shot} : flip2 (takeTurn true r x) = takeTurn false (flip2 r) x := by
  unfold takeTurn flip2
  simp only
  split <;> simp [List.map_set]
theorem turn_length {v : Bool} {r : Flags} {x : Shot} : (takeTurn v r x).2.1.length = r.2.1.length := by
  unfold takeTurn
  split <;> simp
theorem take_flip {r : Flags} {x : Shot} {heard : Bool} (h : r.2.1.length = 8) : takeOf false (flip2 r) x heard = ((takeOf true r x heard).1, flip2 (takeOf true r x heard).2) := by
  unfold takeOf
  split
  · rfl
  · rename_i hb
    split
    · rfl
    · have hx : x.1.toNat < 8 := by
        simp only [badShot, Bool.not_eq_true, Bool.or_eq_false_iff, decide_eq_false_iff_not] at hb
        omega
      have h1 : (takeTurn false (flip2 r) x).2.1.getD x.1.toNat false = !((takeTurn true r x).2.1.getD x.1.toNat false) := by
        rw [← turn_flip]
        exact getD_not _ _ (by rw [turn_length, h]; exact hx)
      simp only
      rw [h1, ← turn_flip]
      cases hq : (takeTurn true r x).2.1.getD x.1.toNat false <;> cases heard <;> simp [flip2, List.map_set]
theorem take_length {v : Bool} {r : Flags} {x : Shot} {heard : Bool} : (takeOf v r x heard).2.2.1.length = r.2.1.length := by
  unfold takeOf
  split
  · rfl
  · split
    · rfl
    · simp only
      split
      · exact turn_length
      · split
        · simp [turn_length]
        · exact turn_length
end Go.Spec
