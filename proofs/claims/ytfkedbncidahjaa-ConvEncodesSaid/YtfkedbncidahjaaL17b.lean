/- The shape of a state at a loop's head. -/
import Derived.Test.YtfkedbncidahjaaL17
set_option linter.unusedVariables false
set_option linter.unusedSimpArgs false
namespace Go.Lift
open Go

inductive Slot where
  | u
  | v (t : Ty)
  | sl (r : Nat)
  | addr (r : Nat)
  | nilsl
  | nilp
  | fn (f : FuncId) (rs : List Nat)
inductive RSlot where
  | row (t : Ty)
  | box (t : Ty)
  | obox (t : Ty)
@[reducible] def tden : List Slot → Type
  | [] => Unit
  | .v t :: ss => t.den × tden ss
  | .u :: ss => tden ss
  | .sl _ :: ss => tden ss
  | .addr _ :: ss => tden ss
  | .nilsl :: ss => tden ss
  | .nilp :: ss => tden ss
  | .fn _ _ :: ss => tden ss
@[reducible] def gden : List (Nat × RSlot) → Type
  | [] => Unit
  | (_, .row t) :: ss => List t.den × gden ss
  | (_, .box t) :: ss => t.den × gden ss
  | (_, .obox t) :: ss => Option t.den × gden ss
def capsOf (rs : List Nat) : List SV := rs.map fun r => .addr r []
def absTm : (ss : List Slot) → tden ss → List AV
  | [], _ => []
  | .v t :: ss, x => .s (.val t x.1) :: absTm ss x.2
  | .u :: ss, x => .s .undef :: absTm ss x
  | .sl r :: ss, x => .s (.sl r) :: absTm ss x
  | .addr r :: ss, x => .s (.addr r []) :: absTm ss x
  | .nilsl :: ss, x => .s .nilsl :: absTm ss x
  | .nilp :: ss, x => .s .nilp :: absTm ss x
  | .fn f rs :: ss, x => .fn f (capsOf rs) :: absTm ss x
def absRg : (ss : List (Nat × RSlot)) → gden ss → Regs
  | [], _ => []
  | (r, .row t) :: ss, x => (r, .row t x.1) :: absRg ss x.2
  | (r, .box t) :: ss, x => (r, .box t x.1) :: absRg ss x.2
  | (r, .obox t) :: ss, x => (r, .obox t x.1) :: absRg ss x.2
def readCaps : List Nat → List SV → Bool
  | [], vs => match vs with
    | [] => true
    | _ => false
  | r :: rs, vs => match vs with
    | .addr r' [] :: vs => decide (r = r') && readCaps rs vs
    | _ => false
def readTm : (ss : List Slot) → List AV → Option (tden ss)
  | [], vs => match vs with
    | [] => some ()
    | _ => none
  | .v t :: ss, vs => match vs with
    | .s (.val t' x) :: vs => match castTy t' t x with
      | some y => match readTm ss vs with
        | some z => some (y, z)
        | none => none
      | none => none
    | _ => none
  | .u :: ss, vs => match vs with
    | .s .undef :: vs => readTm ss vs
    | _ => none
  | .sl r :: ss, vs => match vs with
    | .s (.sl r') :: vs => if r = r' then readTm ss vs else none
    | _ => none
  | .addr r :: ss, vs => match vs with
    | .s (.addr r' []) :: vs => if r = r' then readTm ss vs else none
    | _ => none
  | .nilsl :: ss, vs => match vs with
    | .s .nilsl :: vs => readTm ss vs
    | _ => none
  | .nilp :: ss, vs => match vs with
    | .s .nilp :: vs => readTm ss vs
    | _ => none
  | .fn f rs :: ss, vs => match vs with
    | .fn f' caps :: vs => if f = f' ∧ readCaps rs caps = true then readTm ss vs else none
    | _ => none
def readRg : (ss : List (Nat × RSlot)) → Regs → Option (gden ss)
  | [], vs => match vs with
    | [] => some ()
    | _ => none
  | (r, .row t) :: ss, vs => match vs with
    | (r', .row t' x) :: vs => if r = r' then match castTy (.ro t') (.ro t) x with
      | some y => match readRg ss vs with
        | some z => some (y, z)
        | none => none
      | none => none else none
    | _ => none
  | (r, .box t) :: ss, vs => match vs with
    | (r', .box t' x) :: vs => if r = r' then match castTy t' t x with
      | some y => match readRg ss vs with
        | some z => some (y, z)
        | none => none
      | none => none else none
    | _ => none
  | (r, .obox t) :: ss, vs => match vs with
    | (r', .obox t' x) :: vs => if r = r' then if h : t' = t then match readRg ss vs with
      | some z => some (h ▸ x, z)
      | none => none else none else none
    | _ => none
theorem readCaps_abs : ∀ {rs : List Nat} {vs : List SV}, readCaps rs vs = true → capsOf rs = vs
  | [], vs, h => by
    simp only [readCaps] at h
    split at h
    · rfl
    · cases h
  | r :: rs, vs, h => by
    simp only [readCaps] at h
    split at h
    · simp only [Bool.and_eq_true, decide_eq_true_eq] at h
      have := readCaps_abs h.2
      unfold capsOf at this ⊢
      rw [List.map_cons, h.1, this]
    · cases h
theorem readTm_abs : ∀ {ss : List Slot} {vs : List AV} {x : tden ss}, readTm ss vs = some x → absTm ss x = vs := by
  intro ss
  induction ss with
  | nil =>
    intro vs x h
    simp only [readTm] at h
    split at h
    · rfl
    · cases h
  | cons s ss ih =>
    intro vs x h
    cases s with
    | v t =>
      simp only [readTm] at h
      split at h
      · split at h
        · rename_i hc
          split at h
          · rename_i hr
            cases h
            obtain ⟨e1, e2⟩ := castTy_some hc
            subst e1
            subst e2
            simp only [absTm]
            rw [ih hr]
          · cases h
        · cases h
      · cases h
    | u => simp only [readTm] at h; split at h; · simp only [absTm]; rw [ih h]
           · cases h
    | nilsl => simp only [readTm] at h; split at h; · simp only [absTm]; rw [ih h]
               · cases h
    | nilp => simp only [readTm] at h; split at h; · simp only [absTm]; rw [ih h]
              · cases h
    | sl r =>
      simp only [readTm] at h
      split at h
      · split at h
        · rename_i e; subst e; simp only [absTm]; rw [ih h]
        · cases h
      · cases h
    | addr r =>
      simp only [readTm] at h
      split at h
      · split at h
        · rename_i e; subst e; simp only [absTm]; rw [ih h]
        · cases h
      · cases h
    | fn f rs =>
      simp only [readTm] at h
      split at h
      · split at h
        · rename_i e; simp only [absTm]; rw [ih h, e.1, readCaps_abs e.2]
        · cases h
      · cases h
theorem readRg_abs : ∀ {ss : List (Nat × RSlot)} {vs : Regs} {x : gden ss}, readRg ss vs = some x → absRg ss x = vs := by
  intro ss
  induction ss with
  | nil =>
    intro vs x h
    simp only [readRg] at h
    split at h
    · rfl
    · cases h
  | cons s ss ih =>
    intro vs x h
    obtain ⟨r, s⟩ := s
    cases s with
    | row t =>
      simp only [readRg] at h
      split at h
      · split at h
        · rename_i e
          subst e
          split at h
          · rename_i hc
            split at h
            · rename_i hr
              cases h
              obtain ⟨e1, e2⟩ := castTy_some hc
              cases e1
              subst e2
              simp only [absRg]
              rw [ih hr]
            · cases h
          · cases h
        · cases h
      · cases h
    | box t =>
      simp only [readRg] at h
      split at h
      · split at h
        · rename_i e
          subst e
          split at h
          · rename_i hc
            split at h
            · rename_i hr
              cases h
              obtain ⟨e1, e2⟩ := castTy_some hc
              subst e1
              subst e2
              simp only [absRg]
              rw [ih hr]
            · cases h
          · cases h
        · cases h
      · cases h
    | obox t =>
      simp only [readRg] at h
      split at h
      · split at h
        · rename_i e
          subst e
          split at h
          · rename_i e2
            subst e2
            split at h
            · rename_i hr
              cases h
              simp only [absRg]
              rw [ih hr]
            · cases h
          · cases h
        · cases h
      · cases h

inductive AExit where
  | normal
  | exit (id : Nat)
  | ret
/-- A loop told: the shape at its head, what must hold there, what it comes to. -/
structure Loop where
  ts : List Slot
  rs : List (Nat × RSlot)
  next : Nat
  pre : tden ts → gden rs → Prop
  m : tden ts → gden rs → Nat
  out : tden ts → gden rs → (AExit → St → Prop) → Prop
def Loop.abs (L : Loop) (x : tden L.ts) (y : gden L.rs) : St := ⟨absTm L.ts x, absRg L.rs y, L.next⟩
def Loop.enter (L : Loop) (st : St) (K : AExit → St → Prop) : Prop :=
  match st with
  | ⟨tm, rs, n⟩ => match readTm L.ts tm with
    | some x => match readRg L.rs rs with
      | some y => if n = L.next then L.pre x y ∧ L.out x y K else False
      | none => False
    | none => False
theorem Loop.enter_spec {L : Loop} {st : St} {K : AExit → St → Prop} (h : L.enter st K) : ∃ x y, st = L.abs x y ∧ L.pre x y ∧ L.out x y K := by
  obtain ⟨tm, rs, n⟩ := st
  simp only [Loop.enter] at h
  split at h
  · rename_i x hx
    split at h
    · rename_i y hy
      split at h
      · rename_i e
        exact ⟨x, y, by simp only [Loop.abs, readTm_abs hx, readRg_abs hy, e], h⟩
      · exact h.elim
    · exact h.elim
  · exact h.elim
/-- The same at the end of a round: it has come down. -/
def Loop.again (L : Loop) (m0 : Nat) (st : St) (K : AExit → St → Prop) : Prop :=
  match st with
  | ⟨tm, rs, n⟩ => match readTm L.ts tm with
    | some x => match readRg L.rs rs with
      | some y => if n = L.next then L.pre x y ∧ L.m x y < m0 ∧ L.out x y K else False
      | none => False
    | none => False
theorem Loop.again_spec {L : Loop} {m0 : Nat} {st : St} {K : AExit → St → Prop} (h : L.again m0 st K) : ∃ x y, st = L.abs x y ∧ L.pre x y ∧ L.m x y < m0 ∧ L.out x y K := by
  obtain ⟨tm, rs, n⟩ := st
  simp only [Loop.again] at h
  split at h
  · rename_i x hx
    split at h
    · rename_i y hy
      split at h
      · rename_i e
        exact ⟨x, y, by simp only [Loop.abs, readTm_abs hx, readRg_abs hy, e], h⟩
      · exact h.elim
    · exact h.elim
  · exact h.elim

end Go.Lift
