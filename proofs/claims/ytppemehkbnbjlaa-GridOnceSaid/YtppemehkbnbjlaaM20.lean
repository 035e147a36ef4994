/- The grid: shares, places, what is laid and what is taken. -/
import Derived.Test.YtppemehkbnbjlaaM1
set_option linter.unusedVariables false
set_option linter.unusedSimpArgs false
namespace Go.Spec
open Go Go.Lift
abbrev Sh := Int × Int × Int × Int × Int × Unit
abbrev GR := Int × List Sh × Unit
abbrev PL := Int × Int × Unit
abbrev PT := Int × Int × Unit
abbrev PA := Int × List PT × Unit
abbrev sh0 : Sh := (0, 0, 0, 0, 0, ())
abbrev pt0 : PT := (0, 0, ())
def formedB (s : Sh) (n : Int) : Bool := decide (1 ≤ s.1 ∧ s.1 ≤ 16 ∧ 0 ≤ s.2.1 ∧ s.2.1 < n ∧ 1 ≤ s.2.2.1 ∧ s.2.2.1 ≤ n - s.2.1 ∧ 0 ≤ s.2.2.2.1 ∧ s.2.2.2.1 < s.2.2.2.2.1 ∧ s.2.2.2.2.1 ≤ 14)
def covers (s : Sh) (tone t : Int) : Bool := decide (s.2.2.2.1 ≤ t ∧ t < s.2.2.2.2.1 ∧ 12 * s.2.1 ≤ tone ∧ tone < 12 * (s.2.1 + s.2.2.1))
def ownF (tone t : Int) : List Sh → Int × Int → Int × Int
  | [], a => a
  | s :: l, a => ownF tone t l (if covers s tone t = true then (s.1, a.2 + 1) else a)
def owner (g : GR) (tone t : Int) : Int × Int := ownF tone t g.2.1 (0, 0)
def pilotB (tone t : Int) : Bool := decide ((t = 3 ∨ t = 10) ∧ Int.tmod tone 3 = 0)
def sizeB (g : GR) : Bool := decide (1 ≤ g.1 ∧ g.1 ≤ 12 ∧ (g.2.1.length : Int) ≤ 100)
def shapedB (g : GR) : Bool := g.2.1.all fun s => formedB s g.1
/-- From t on, k times: do two take one place of this block? -/
def clashT (g : GR) (tone : Int) : Int → Nat → Bool
  | _, 0 => false
  | t, k + 1 => decide ((owner g tone t).2 > 1) || clashT g tone (t + 1) k
def clashF (g : GR) : Int → Nat → Bool
  | _, 0 => false
  | tone, k + 1 => clashT g tone 0 14 || clashF g (tone + 12) k
def clashB (g : GR) : Bool := clashF g 0 g.1.toNat
def gridErr (g : GR) : Int := if sizeB g = true then (if shapedB g = true then (if clashB g = true then 5 else 0) else 1) else 1
/-! the table of the program -/
def row14 : List Int := List.replicate 14 0
def incAt (T : List (List Int)) (b t : Int) : List (List Int) := T.set b.toNat ((T.getD b.toNat row14).set t.toNat (IntKind.wrap .i64 ((T.getD b.toNat row14).getD t.toNat 0 + 1)))
def incRow (b : Int) : List (List Int) → Int → Nat → List (List Int)
  | T, _, 0 => T
  | T, t, k + 1 => incRow b (incAt T b t) (t + 1) k
def incCols (s : Sh) : List (List Int) → Int → Nat → List (List Int)
  | T, _, 0 => T
  | T, b, k + 1 => incCols s (incRow (s.2.1 + b) T s.2.2.2.1 (s.2.2.2.2.1 - s.2.2.2.1).toNat) (b + 1) k
def incAll : List Sh → List (List Int) → List (List Int)
  | [], T => T
  | s :: l, T => incAll l (incCols s T 0 s.2.2.1.toNat)
def maxF : List Int → Int → Int
  | [], m => m
  | x :: l, m => maxF l (lesser true m x)
def maxL (l : List Int) : Int := maxF l.tail (l.getD 0 0)
def over1 (T : List (List Int)) : Int → Nat → Bool
  | _, 0 => false
  | i, k + 1 => decide (maxL (T.getD i.toNat row14) > 1) || over1 T (i + 1) k
def table (g : GR) : List (List Int) := incAll g.2.1 (List.replicate 12 row14)
/-! places -/
def hits (who tone t : Int) (l : List Sh) : List PL := (l.filter fun s => decide (s.1 = who) && covers s tone t).map fun _ => (tone, t, ())
def cellP (g : GR) (who tone t : Int) : List PL := if pilotB tone t = true then [] else hits who tone t g.2.1
def cellR (g : GR) (who tone t : Int) : List PL := if (owner g tone t).2 > 0 ∧ (owner g tone t).1 = who ∧ pilotB tone t = false then [(tone, t, ())] else []
def rowG (f : Int → Int → List PL) (t : Int) : Int → Nat → List PL
  | _, 0 => []
  | tone, k + 1 => f tone t ++ rowG f t (tone + 1) k
def allG (f : Int → Int → List PL) (n : Nat) : Int → Nat → List PL
  | _, 0 => []
  | t, k + 1 => rowG f t 0 n ++ allG f n (t + 1) k
def tones (g : GR) : Nat := (12 * g.1).toNat
def placesI (g : GR) (who : Int) : List PL := allG (cellP g who) (tones g) 0 14
def placesR (g : GR) (who : Int) : List PL := allG (cellR g who) (tones g) 0 14
def placesF (g : GR) (who : Int) : List PL × Int := if gridErr g = 0 then (placesI g who, 0) else ([], gridErr g)
/-! laying -/
abbrev RW := List (List PT)
def setC (R : RW) (t tone : Int) (v : PT) : RW := R.set t.toNat ((R.getD t.toNat []).set tone.toNat v)
def getC (R : RW) (t tone : Int) : PT := (R.getD t.toNat []).getD tone.toNat pt0
def pilotP (t : Int) : PT := (1, IntKind.wrap .i64 (1 - IntKind.wrap .i64 (2 * bits BinOp.and .i64 t 1)), ())
def fillRow (t : Int) : RW → Int → Nat → RW
  | R, _, 0 => R
  | R, tone, k + 1 => fillRow t (if pilotB tone t = true then setC R t tone (pilotP t) else R) (tone + 1) k
def baseF (n : Nat) : RW → Int → Nat → RW
  | R, _, 0 => R
  | R, t, k + 1 => baseF n (fillRow t (R.set t.toNat (List.replicate n pt0)) 0 n) (t + 1) k
def baseR (g : GR) : RW := baseF (tones g) (List.replicate 14 []) 0 14
def putAll : RW → List (PL × PT) → RW
  | R, [] => R
  | R, (p, v) :: l => putAll (setC R p.2.1 p.1 v) l
def layF (g : GR) : RW → List PA → Bool × RW
  | R, [] => (true, R)
  | R, x :: ps => if (placesI g x.1).length = x.2.1.length then layF g (putAll R ((placesI g x.1).zip x.2.1)) ps else (false, R)
def dupB (l : List PA) : Bool := !decide ((l.map (·.1)).Nodup)
def layG (g : GR) (parts : List PA) : RW × Int :=
  if gridErr g = 0 then (if dupB parts = true then ([], 1) else if (layF g (baseR g) parts).1 = true then ((layF g (baseR g) parts).2, 0) else ([], 3)) else ([], gridErr g)
def formRows (g : GR) (rows : RW) : Bool := decide (rows.length = 14) && rows.all fun r => decide ((r.length : Int) = 12 * g.1)
def takeG (g : GR) (rows : RW) (who : Int) : List PT × Int :=
  if gridErr g = 0 then (if formRows g rows = true then ((placesI g who).map fun p => getC rows p.2.1 p.1, 0) else ([], 3)) else ([], gridErr g)
theorem sizeB_iff {g : GR} : sizeB g = true ↔ 1 ≤ g.1 ∧ g.1 ≤ 12 ∧ (g.2.1.length : Int) ≤ 100 := by unfold sizeB; simp
theorem formed_iff {s : Sh} {n : Int} : formedB s n = true ↔ 1 ≤ s.1 ∧ s.1 ≤ 16 ∧ 0 ≤ s.2.1 ∧ s.2.1 < n ∧ 1 ≤ s.2.2.1 ∧ s.2.2.1 ≤ n - s.2.1 ∧ 0 ≤ s.2.2.2.1 ∧ s.2.2.2.1 < s.2.2.2.2.1 ∧ s.2.2.2.2.1 ≤ 14 := by unfold formedB; simp
theorem shaped_iff {g : GR} : shapedB g = true ↔ ∀ s ∈ g.2.1, formedB s g.1 = true := by unfold shapedB; simp
theorem err_ok {g : GR} (h : gridErr g = 0) : sizeB g = true ∧ shapedB g = true ∧ clashB g = false := by
  unfold gridErr at h
  split at h
  · split at h
    · split at h
      · omega
      · rename_i h1 h2 h3; exact ⟨h1, h2, by simpa using h3⟩
    · omega
  · omega
end Go.Spec
