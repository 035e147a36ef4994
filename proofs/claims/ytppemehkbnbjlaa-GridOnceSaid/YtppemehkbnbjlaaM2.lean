/- Processes of blocks: what a sender holds, what the document's sender holds. -/
import Derived.Test.YtppemehkbnbjlaaM1
set_option linter.unusedVariables false
set_option linter.unusedSimpArgs false
namespace Go.Spec
open Go Go.Lift
abbrev BL := ByteArray × Int × Bool × Unit
abbrev HS := Int × List Bool × Option (List (Int × Option BL)) × Unit
abbrev TR := Bool × Bool × Bool × ByteArray × Int × Unit
abbrev RS := Int × List TR × Unit
abbrev SH := Int × Int × Bool × ByteArray × Unit
def blk (s : HS) (k : Int) : Option BL := (getO s.2.2.1 k).getD none
def t0R : TR := (false, false, false, ByteArray.empty, 0, ())
def proc (r : RS) (k : Int) : TR := r.2.1.getD k.toNat t0R
def free (p : Int → Bool) : Int → Nat → Option Int
  | _, 0 => none
  | i, n + 1 => if p i = true then some i else free p (i + 1) n
def waitL (p : Int → Bool) : Int → Nat → List Int
  | _, 0 => []
  | i, n + 1 => (if p i = true then [i] else []) ++ waitL p (i + 1) n
def freeS (s : HS) (i : Int) : Option Int := free (fun k => (blk s k).isNone) i (8 - i).toNat
def freeR (r : RS) (i : Int) : Option Int := free (fun k => !(proc r k).1) i (8 - i).toNat
def putS (s : HS) (k : Int) (d : ByteArray) : HS := (s.1, s.2.1.set k.toNat (!s.2.1.getD k.toNat false), putO s.2.2.1 k (some (d, 0, false, ())), s.2.2.2)
def putR (r : RS) (k : Int) (d : ByteArray) : RS := (r.1, r.2.1.set k.toNat (true, !(proc r k).2.1, false, d, 0, ()), r.2.2)
def subS (s : HS) (d : ByteArray) : (Int × Int) × HS :=
  if (1500 : Int) < d.size then ((0, 2), s) else if (freeS s 0).isSome = true then (((freeS s 0).getD 0, 0), putS s ((freeS s 0).getD 0) d) else ((0, 7), s)
def subR (r : RS) (d : ByteArray) : (Int × Int) × RS :=
  if (1500 : Int) < d.size then ((0, 2), r) else if (freeR r 0).isSome = true then (((freeR r 0).getD 0, 0), putR r ((freeR r 0).getD 0) d) else ((0, 7), r)
def shot0 : SH := (0, 0, false, ByteArray.empty, ())
def setB (s : HS) (k : Int) (b : BL) : HS := (s.1, s.2.1, setO s.2.2.1 k (some b), s.2.2.2)
def nextS (s : HS) (k : Int) : (SH × Int) × HS :=
  if k < 0 ∨ 7 < k then ((shot0, 1), s) else match blk s k with
    | none => ((shot0, 6), s)
    | some b => if b.2.2.1 = true then ((shot0, 9), s) else (((k, [0, 2, 3, 1].getD (Int.tmod b.2.1 4).toNat 0, s.2.1.getD k.toNat false, b.1, ()), 0), setB s k (b.1, b.2.1 + 1, true, ()))
def nextR (r : RS) (k : Int) : (SH × Int) × RS :=
  if k < 0 ∨ 7 < k then ((shot0, 1), r) else if (proc r k).1 = false then ((shot0, 6), r) else if (proc r k).2.2.1 = true then ((shot0, 9), r) else
    (((k, [0, 2, 3, 1, 0, 2, 3, 1].getD (proc r k).2.2.2.2.1.toNat 0, (proc r k).2.1, (proc r k).2.2.2.1, ()), 0), (r.1, r.2.1.set k.toNat ((proc r k).1, (proc r k).2.1, true, (proc r k).2.2.2.1, (proc r k).2.2.2.2.1 + 1, ()), r.2.2))
def ansS (s : HS) (k : Int) (yes : Bool) : (Bool × Int) × HS :=
  if k < 0 ∨ 7 < k then ((false, 1), s) else match blk s k with
    | none => ((false, 6), s)
    | some b => if b.2.2.1 = false then ((false, 9), s) else if yes = true ∨ b.2.1 = s.1 then ((true, 0), (s.1, s.2.1, delO' s.2.2.1 k, s.2.2.2)) else ((false, 0), setB s k (b.1, b.2.1, false, ()))
def busyR (r : RS) (k : Int) (yes : Bool) : Bool := !yes && decide ((proc r k).2.2.2.2.1 < r.1)
def ansR (r : RS) (k : Int) (yes : Bool) : (Bool × Int) × RS :=
  if k < 0 ∨ 7 < k then ((false, 1), r) else if (proc r k).1 = false then ((false, 6), r) else if (proc r k).2.2.1 = false then ((false, 9), r) else
    ((!busyR r k yes, 0), (r.1, r.2.1.set k.toNat (busyR r k yes, (proc r k).2.1, false, (proc r k).2.2.2.1, (proc r k).2.2.2.2.1, ()), r.2.2))
def waitS (s : HS) (i : Int) : List Int := waitL (fun k => (blk s k).isSome) i (8 - i).toNat
def waitR (r : RS) (i : Int) : List Int := waitL (fun k => (proc r k).1) i (8 - i).toNat
theorem setO_getO (o : Option (List (Int × Option BL))) (k : Int) : setO o k ((getO o k).getD none) = o := by
  cases o with
  | none => rfl
  | some es =>
    show some (setE es k ((getE es k).getD none)) = some es
    cases h : getE es k with
    | none => rw [setE_getE es k _ (.inl h)]
    | some y => simp [setE_getE es k y (.inr h)]
theorem putE_putE {β : Type} : ∀ (es : List (Int × β)) (k : Int) (a b : β), putE (putE es k a) k b = putE es k b
  | [], k, a, b => by simp [putE]
  | e :: es, k, a, b => by
    by_cases h : e.1 = k
    · simp [putE, h]
    · simp [putE, h, putE_putE es k a b]
theorem setE_putE {β : Type} : ∀ (es : List (Int × β)) (k : Int) (a b : β), setE (putE es k a) k b = putE es k b
  | [], k, a, b => by simp [putE, setE]
  | e :: es, k, a, b => by
    by_cases h : e.1 = k
    · simp [putE, setE, h]
    · simp [putE, setE, h, setE_putE es k a b]
theorem delE_setE {β : Type} : ∀ (es : List (Int × β)) (k : Int) (a : β), delE (setE es k a) k = delE es k
  | [], k, a => by simp [setE, delE]
  | e :: es, k, a => by
    by_cases h : e.1 = k
    · simp [setE, delE, h]
    · simp [setE, delE, h, delE_setE es k a]
theorem setE_setE {β : Type} : ∀ (es : List (Int × β)) (k : Int) (a b : β), setE (setE es k a) k b = setE es k b
  | [], k, a, b => by simp [setE]
  | e :: es, k, a, b => by
    by_cases h : e.1 = k
    · simp [setE, h]
    · simp [setE, h, setE_setE es k a b]
theorem setO_putO (o : Option (List (Int × Option BL))) (k : Int) (a b : Option BL) : setO (putO o k a) k b = putO o k b := by cases o <;> simp [setO, putO, setE_putE]
theorem delO_setO (o : Option (List (Int × Option BL))) (k : Int) (a : Option BL) : delO' (setO o k a) k = delO' o k := by cases o <;> simp [setO, delO', delE_setE]
theorem setO_isSome (o : Option (List (Int × Option BL))) (k : Int) (a : Option BL) : (setO o k a).isSome = o.isSome := by cases o <;> rfl
end Go.Spec
