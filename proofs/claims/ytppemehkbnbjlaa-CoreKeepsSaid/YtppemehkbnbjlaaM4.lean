/- A core: who is where, what is lent; the document's core. -/
import Derived.Test.YtppemehkbnbjlaaM1
set_option linter.unusedVariables false
set_option linter.unusedSimpArgs false
namespace Go.Spec
open Go Go.Lift
abbrev RE := Int × Int × Int × Unit
abbrev PR := Int × Int × RE × Unit
abbrev GR := Int × Int × Int × Bool × Unit
abbrev PMap := Option (List (Int × Option PR))
abbrev CS := Int × PMap × List (Option GR) × Unit
abbrev PS := Bool × Bool × Bool × Int × Int × Unit
abbrev LN := Int × Int × Int × Int × Bool × Unit
abbrev RC := Int × List PS × List LN × Unit
abbrev UG := Int × Int × Int × Bool × Unit
def w64 (n : Int) : Int := IntKind.wrap .i64 n
def p0 : PR := (0, 0, (0, 0, 0, ()), ())
def g0 : GR := (0, 0, 0, false, ())
def ps0 : PS := (false, false, false, 0, 0, ())
def l0 : LN := (0, 0, 0, 0, false, ())
def isC (c : Int) : Bool := decide (1 ≤ c) && decide (c ≤ 100)
def firstBad : List Int → Int → Int
  | [], _ => -1
  | c :: l, i => if isC c = true then firstBad l (i + 1) else i
def per (m : PMap) (w : Int) : Option PR := (getO m w).getD none
def joinC (c : CS) (w q : Int) : Int × CS :=
  if w < 1 ∨ 16 < w ∨ q < 0 ∨ 1000000000 < q then (1, c) else if (per c.2.1 w).isSome = true then (10, c) else (0, (c.1, putO c.2.1 w (some (0, 0, (q, 0, 0, ()), ())), c.2.2))
def moveC (c : CS) (w : Int) (cells : List Int) (may : PR → Bool) (st cell : Int) : Int × CS :=
  match per c.2.1 w with
  | none => (12, c)
  | some p => if cells.all isC = false then (1, c) else if may p = false then (9, c) else (0, (c.1, setO c.2.1 w (some (st, cell, p.2.2)), c.2.2))
def attC (c : CS) (w cell : Int) : Int × CS := moveC c w [cell] (fun p => p.1 == 0) 1 cell
def wakC (c : CS) (w cell : Int) : Int × CS := moveC c w [cell] (fun p => p.1 == 2) 1 cell
def hanC (c : CS) (w fr to : Int) : Int × CS := moveC c w [fr, to] (fun p => p.1 == 1 && p.2.1 == fr) 1 to
def slpC (c : CS) (w : Int) : Int × CS :=
  match per c.2.1 w with
  | none => (12, c)
  | some p => moveC c w [] (fun p => p.1 == 1) 2 p.2.1
def shutP (m : PMap) (g : GR) : PMap :=
  setO m g.1 (some (((per m g.1).getD p0).1, ((per m g.1).getD p0).2.1, (w64 (((per m g.1).getD p0).2.2.1.1 + g.2.1), w64 (((per m g.1).getD p0).2.2.1.2.1 - g.2.1), ((per m g.1).getD p0).2.2.1.2.2), ((per m g.1).getD p0).2.2.2))
def shutG (g : GR) : GR := (g.1, 0, g.2.2.1, true, g.2.2.2.2)
def shutL (w : Int) : List (Option GR) → PMap → PMap × List (Option GR)
  | [], m => (m, [])
  | g :: gs, m => if (g.getD g0).1 = w then ((shutL w gs (shutP m (g.getD g0))).1, some (shutG (g.getD g0)) :: (shutL w gs (shutP m (g.getD g0))).2) else ((shutL w gs m).1, g :: (shutL w gs m).2)
def leaC (c : CS) (w : Int) : Int × CS :=
  if (moveC c w [] (fun p => p.1 != 0) 0 0).1 = 0 then (0, (c.1, (shutL w c.2.2.1 (moveC c w [] (fun p => p.1 != 0) 0 0).2.2.1).1, (shutL w c.2.2.1 (moveC c w [] (fun p => p.1 != 0) 0 0).2.2.1).2, c.2.2.2)) else moveC c w [] (fun p => p.1 != 0) 0 0
def lendN (c : CS) (p : PR) : Int := if p.2.2.1.1 < c.1 then p.2.2.1.1 else c.1
def lenC (c : CS) (w : Int) : (Int × Int × Int) × CS :=
  match per c.2.1 w with
  | none => ((0, 0, 12), c)
  | some p => if p.1 ≠ 1 then ((0, 0, 9), c) else if p.2.2.1.1 = 0 then ((0, 0, 11), c) else
    ((c.2.2.1.length + 1, lendN c p, 0), (c.1, setO c.2.1 w (some (p.1, p.2.1, (w64 (p.2.2.1.1 - lendN c p), w64 (p.2.2.1.2.1 + lendN c p), p.2.2.1.2.2), p.2.2.2)), c.2.2.1 ++ [some (w, lendN c p, 0, false, ())], c.2.2.2))
def grantAt (c : CS) (u : UG) : GR := (c.2.2.1.getD (u.1 - 1).toNat none).getD g0
def repP (m : PMap) (w b : Int) : PMap :=
  setO m w (some (((per m w).getD p0).1, ((per m w).getD p0).2.1, (((per m w).getD p0).2.2.1.1, w64 (((per m w).getD p0).2.2.1.2.1 - b), w64 (((per m w).getD p0).2.2.1.2.2.1 + b), ()), ((per m w).getD p0).2.2.2))
def repG (g : GR) (b : Int) : GR := (g.1, w64 (g.2.1 - b), w64 (g.2.2.1 + 1), g.2.2.2)
def repC (c : CS) (u : UG) : Int × CS :=
  if u.1 < 1 ∨ (c.2.2.1.length : Int) < u.1 then (6, c) else
  if 1 ≤ u.2.1 ∧ u.2.1 ≤ (grantAt c u).2.2.1 then (10, c) else if u.2.1 ≠ w64 ((grantAt c u).2.2.1 + 1) then (3, c) else if (grantAt c u).2.2.2.1 = true then (9, c) else
  if u.2.2.1 < 0 ∨ (grantAt c u).2.1 < u.2.2.1 then (11, c) else
  if u.2.2.2.1 = true then (0, (c.1, shutP (repP c.2.1 (grantAt c u).1 u.2.2.1) (repG (grantAt c u) u.2.2.1), c.2.2.1.set (u.1 - 1).toNat (some (shutG (repG (grantAt c u) u.2.2.1))), c.2.2.2))
  else (0, (c.1, repP c.2.1 (grantAt c u).1 u.2.2.1, c.2.2.1.set (u.1 - 1).toNat (some (repG (grantAt c u) u.2.2.1)), c.2.2.2))
def recC (c : CS) (w : Int) : RE × Int :=
  match per c.2.1 w with
  | none => ((0, 0, 0, ()), 12)
  | some p => (p.2.2.1, 0)
def pgL : Nat → Int → List Int
  | 0, _ => []
  | k + 1, n => if isC n = true then n :: pgL k (w64 (n + 1)) else []
def pgStart (cell : Int) : Int := w64 (w64 (w64 (Int.tdiv (w64 (cell - 1)) 8) * 8) + 1)
def pagC (c : CS) (w : Int) : List Int × Int :=
  match per c.2.1 w with
  | none => ([], 12)
  | some p => if p.1 = 0 then ([], 9) else if p.1 = 1 then ([p.2.1], 0) else (pgL 8 (pgStart p.2.1), 0)
/-! the document's -/
def ps (r : RC) (w : Int) : PS := r.2.1.getD w.toNat ps0
def knB (r : RC) (w : Int) : Bool := decide (1 ≤ w) && decide (w ≤ 16) && (ps r w).1
def setPs (r : RC) (w : Int) (p : PS) : RC := (r.1, r.2.1.set w.toNat p, r.2.2)
def joinR (r : RC) (w q : Int) : Int × RC :=
  if w < 1 ∨ 16 < w ∨ q < 0 ∨ 1000000000 < q then (1, r) else if (ps r w).1 = true then (10, r) else (0, setPs r w (true, false, false, 0, q, ()))
def attR (r : RC) (w cell : Int) : Int × RC :=
  if knB r w = false then (12, r) else if isC cell = false then (1, r) else if (ps r w).2.1 = true then (9, r) else (0, setPs r w ((ps r w).1, true, false, cell, (ps r w).2.2.2.2))
def shutR (w : Int) (l : LN) : LN := if l.1 = w then (l.1, l.2.1, l.2.2.1, l.2.2.2.1, true, l.2.2.2.2.2) else l
def leaR (r : RC) (w : Int) : Int × RC :=
  if knB r w = false then (12, r) else if (ps r w).2.1 = false then (9, r) else (0, (r.1, r.2.1.set w.toNat ((ps r w).1, false, (ps r w).2.2), r.2.2.1.map (shutR w), r.2.2.2))
def slpR (r : RC) (w : Int) : Int × RC :=
  if knB r w = false then (12, r) else if (ps r w).2.1 = false ∨ (ps r w).2.2.1 = true then (9, r) else (0, setPs r w ((ps r w).1, (ps r w).2.1, true, (ps r w).2.2.2))
def wakR (r : RC) (w cell : Int) : Int × RC :=
  if knB r w = false then (12, r) else if isC cell = false then (1, r) else if (ps r w).2.1 = false ∨ (ps r w).2.2.1 = false then (9, r) else (0, setPs r w ((ps r w).1, (ps r w).2.1, false, cell, (ps r w).2.2.2.2))
def hanR (r : RC) (w fr to : Int) : Int × RC :=
  if knB r w = false then (12, r) else if isC fr = false ∨ isC to = false then (1, r) else if (ps r w).2.1 = false ∨ (ps r w).2.2.1 = true ∨ (ps r w).2.2.2.1 ≠ fr then (9, r) else (0, setPs r w ((ps r w).1, (ps r w).2.1, (ps r w).2.2.1, to, (ps r w).2.2.2.2))
def same8 (a b : Int) : Bool := w64 (Int.tdiv (w64 (a + 7)) 8) == w64 (Int.tdiv (w64 (b + 7)) 8)
def pgR (cell : Int) : Nat → Int → List Int
  | 0, _ => []
  | k + 1, n => (if same8 n cell = true then [n] else []) ++ pgR cell k (n + 1)
def pagR (r : RC) (w : Int) : List Int × Int :=
  if knB r w = false then ([], 12) else if (ps r w).2.1 = false then ([], 9) else if (ps r w).2.2.1 = false then ([(ps r w).2.2.2.1], 0) else (pgR (ps r w).2.2.2.1 100 1, 0)
def recL (w : Int) : List LN → RE → RE
  | [], e => e
  | l :: ls, e => if l.1 ≠ w then recL w ls e else
    recL w ls (e.1, (if l.2.2.2.2.1 = false then w64 (e.2.1 + w64 (l.2.1 - l.2.2.1)) else e.2.1), w64 (e.2.2.1 + l.2.2.1), e.2.2.2)
def recE (r : RC) (w : Int) : RE := recL w r.2.2.1 (0, 0, 0, ())
def recR (r : RC) (w : Int) : RE × Int :=
  if knB r w = false then ((0, 0, 0, ()), 12) else ((w64 (w64 ((ps r w).2.2.2.2.1 - (recE r w).2.1) - (recE r w).2.2.1), (recE r w).2), 0)
def lendM (r : RC) (w : Int) : Int := if (recR r w).1.1 < r.1 then (recR r w).1.1 else r.1
def lenR (r : RC) (w : Int) : (Int × Int × Int) × RC :=
  if (recR r w).2 ≠ 0 then ((0, 0, (recR r w).2), r) else if (ps r w).2.1 = false ∨ (ps r w).2.2.1 = true then ((0, 0, 9), r) else if (recR r w).1.1 = 0 then ((0, 0, 11), r) else
    ((r.2.2.1.length + 1, lendM r w, 0), (r.1, r.2.1, r.2.2.1 ++ [(w, lendM r w, 0, 0, false, ())], r.2.2.2))
def loanAt (r : RC) (u : UG) : LN := r.2.2.1.getD (u.1 - 1).toNat l0
def repR (r : RC) (u : UG) : Int × RC :=
  if u.1 < 1 ∨ (r.2.2.1.length : Int) < u.1 then (6, r) else
  if 0 < u.2.1 ∧ u.2.1 ≤ (loanAt r u).2.2.2.1 then (10, r) else if u.2.1 ≠ w64 ((loanAt r u).2.2.2.1 + 1) then (3, r) else if (loanAt r u).2.2.2.2.1 = true then (9, r) else
  if u.2.2.1 < 0 ∨ w64 ((loanAt r u).2.1 - (loanAt r u).2.2.1) < u.2.2.1 then (11, r) else
    (0, (r.1, r.2.1, r.2.2.1.set (u.1 - 1).toNat ((loanAt r u).1, (loanAt r u).2.1, w64 ((loanAt r u).2.2.1 + u.2.2.1), u.2.1, u.2.2.2.1, (loanAt r u).2.2.2.2.2), r.2.2.2))
def grantsOK (m : PMap) (gs : List (Option GR)) : Prop := ∀ g ∈ gs, g.isSome = true ∧ (per m (g.getD g0).1).isSome = true
theorem per_setO (m : PMap) (k j : Int) (y : Option PR) (h : (per m k).isSome = true) : per (setO m k y) j = if k = j then y else per m j := by
  unfold per at h ⊢
  cases m with
  | none => cases h
  | some es =>
    have h1 : (getE es k).isSome = true := by
      cases hg : getE es k with
      | none =>
        have h2 : (Option.getD (getE es k) none).isSome = true := h
        rw [hg] at h2; cases h2
      | some y => rfl
    show (getE (setE es k y) j).getD none = if k = j then y else (getE es j).getD none
    rw [getE_setE]
    by_cases hkj : k = j
    · simp [hkj] at h1 ⊢
      rw [if_pos h1]; rfl
    · simp [hkj]
theorem setO_per (m : PMap) (k : Int) : setO m k (per m k) = m := by
  unfold per
  cases m with
  | none => rfl
  | some es =>
    show some (setE es k ((getE es k).getD none)) = some es
    cases h : getE es k with
    | none => rw [setE_getE es k _ (.inl h)]
    | some y => simp [setE_getE es k y (.inr h)]
end Go.Spec
