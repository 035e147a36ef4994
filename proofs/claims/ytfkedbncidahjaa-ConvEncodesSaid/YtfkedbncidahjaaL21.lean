/- A function's contract out of its abstract run. -/
import Derived.Test.YtfkedbncidahjaaL20
set_option linter.unusedVariables false
set_option linter.unusedSimpArgs false
namespace Go.Lift
open Go

def Ty.noRo : Ty → Bool
  | .ro _ => false
  | .pair a b => a.noRo && b.noRo
  | .arr _ t => t.noRo
  | _ => true
theorem Ty.rd_noRo {ok ok' : Nat → Prop} {w : World} : ∀ (t : Ty) (x : t.den) (c : Nat → Option Value), t.noRo = true → t.rd ok w x c → t.rd ok' w x c := by
  intro t
  induction t with
  | int k => intro x c _ h; exact h
  | bool => intro x c _ h; exact h
  | str => intro x c _ h; exact h
  | unit => intro x c _ h; exact h
  | ro t ih => intro x c h; simp [Ty.noRo] at h
  | pair a b iha ihb => intro x c hn h; simp only [Ty.noRo, Bool.and_eq_true] at hn; exact ⟨iha _ _ hn.1 h.1, ihb _ _ hn.2 h.2⟩
  | arr n t ih => intro x c hn h; simp only [Ty.noRo] at hn; exact ⟨h.1, fun i hi => ih _ _ hn (h.2 i hi)⟩
theorem VRel.noRo {ok ok' : Nat → Prop} {w : World} {t : Ty} {x : t.den} {v : Value} (hn : t.noRo = true) (h : VRel ok w t x v) : VRel ok' w t x v := ⟨Ty.rd_noRo _ _ _ hn h.1, h.2⟩
def Reg.noRo : Reg → Bool
  | .row t _ => t.noRo
  | .box t _ => t.noRo
  | .obox t _ => t.noRo
theorem Reg.at_noRo {ok ok' : Nat → Prop} {w v : World} {l : Loc} {g : Reg} (hn : g.noRo = true) (h : g.at2 ok w v l) : g.at2 ok' w v l := by
  cases g with
  | row t xs =>
    refine ⟨h.1, ?_⟩
    have h2 := h.2
    cases hb : l.blk with
    | none => simp only [hb] at h2 ⊢; exact h2
    | some b =>
      simp only [hb] at h2 ⊢
      obtain ⟨cs, ty, fz, e1, e2, e3, e4⟩ := h2
      exact ⟨cs, ty, fz, e1, e2, e3, fun i hi => Ty.rd_noRo _ _ _ hn (e4 i hi)⟩
  | box t x =>
    obtain ⟨e0, b, cs, ty, fz, e1, e2, e3, e4, e5⟩ := h
    exact ⟨e0, b, cs, ty, fz, e1, e2, e3, e4, Ty.rd_noRo _ _ _ hn e5⟩
  | obox t o =>
    cases o with
    | none => exact h
    | some x =>
      obtain ⟨e0, b, cs, ty, fz, e1, e2, e3, e4, e5⟩ := h
      exact ⟨e0, b, cs, ty, fz, e1, e2, e3, e4, Ty.rd_noRo _ _ _ hn e5⟩

/-! ### how a call begins -/
def initT : (ps : List PK) → dens ps → Nat → List AV
  | [], _, _ => []
  | .v t :: ps, x, n => .s (.val t x.1) :: initT ps x.2 n
  | .box _ :: ps, x, n => .s (.addr n []) :: initT ps x.2 (n + 1)
  | .row _ :: ps, x, n => .s (.sl n) :: initT ps x.2 (n + 1)
def initR : (ps : List PK) → dens ps → Nat → Regs
  | [], _, _ => []
  | .v _ :: ps, x, n => initR ps x.2 n
  | .box t :: ps, x, n => (n, .box t x.1) :: initR ps x.2 (n + 1)
  | .row t :: ps, x, n => (n, .row t x.1) :: initR ps x.2 (n + 1)
def ioCount (ps : List PK) : Nat := (ps.filter PK.io).length
def initSt (ps : List PK) (x : dens ps) (ntmps : Nat) : St :=
  { tmps := initT ps x 0 ++ List.replicate (ntmps - ps.length) (.s .undef), regs := initR ps x 0, next := ioCount ps }

/-! ### how it ends -/
def nnil (v : SV) (p : Prop) : Prop :=
  match v with
  | .nilsl => True
  | _ => p
/-- The results: what must hold, the regions handed out, those given up. -/
def resEnd (rs : Regs) : (ks : List RK) → rdens ks → List SV → Option (List Prop × List Nat × List Nat)
  | [], _, [] => some ([], [], [])
  | .v t :: ks, y, v :: vs => match toVal rs v t, resEnd rs ks y.2 vs with
    | some (z, l), some (vc, ids, ds) => some ((z = y.1) :: vc, ids, l ++ ds)
    | _, _ => none
  | .vn t :: ks, y, v :: vs => match toVal rs v (.ro t), resEnd rs ks y.2 vs with
    | some (z, l), some (vc, ids, ds) => some (((z : List t.den) = y.1) :: nnil v ((z : List t.den) ≠ []) :: vc, ids, l ++ ds)
    | _, _ => none
  | .row t :: ks, y, .sl r :: vs => match look rs r with
    | some (.row t' xs) => match castTy (.ro t') (.ro t) xs, resEnd rs ks y.2 vs with
      | some z, some (vc, ids, ds) => some (((z : List t.den) = y.1) :: vc, r :: ids, ds)
      | _, _ => none
    | _ => none
  | .row _ :: ks, y, .nilsl :: vs => match resEnd rs ks y.2 vs with
    | some (vc, ids, ds) => some (([] = y.1) :: vc, ids, ds)
    | none => none
  | .box t :: ks, y, .addr r [] :: vs => match look rs r with
    | some (.box t' x) => match castTy t' t x, resEnd rs ks y.2 vs with
      | some z, some (vc, ids, ds) => some ((z = y.1) :: vc, r :: ids, ds)
      | _, _ => none
    | _ => none
  | .obox t :: ks, y, .addr r [] :: vs => match look rs r with
    | some (.box t' x) => match castTy t' t x, resEnd rs ks y.2 vs with
      | some z, some (vc, ids, ds) => some ((some z = y.1) :: vc, r :: ids, ds)
      | _, _ => none
    | _ => none
  | .obox _ :: ks, y, .nilp :: vs => match resEnd rs ks y.2 vs with
    | some (vc, ids, ds) => some ((none = y.1) :: vc, ids, ds)
    | none => none
  | _, _, _ => none
def ioEnd (rs : Regs) : (ps : List PK) → outs ps → Nat → Option (List Prop)
  | [], _, _ => some []
  | .v _ :: ps, y, n => ioEnd rs ps y.2 n
  | .box t :: ps, y, n => match look rs n with
    | some (.box t' x) => match castTy t' t x, ioEnd rs ps y.2 (n + 1) with
      | some z, some vc => some ((z = y.1) :: vc)
      | _, _ => none
    | _ => none
  | .row t :: ps, y, n => match look rs n with
    | some (.row t' xs) => match castTy (.ro t') (.ro t) xs, ioEnd rs ps y.2 (n + 1) with
      | some z, some vc => some (((z : List t.den) = y.1) :: vc)
      | _, _ => none
    | _ => none
def lenEnd : (ps : List PK) → dens ps → outs ps → List Prop
  | [], _, _ => []
  | .v _ :: ps, x, y => lenEnd ps x.2 y.2
  | .box _ :: ps, x, y => lenEnd ps x.2 y.2
  | .row _ :: ps, x, y => (List.length y.1 = List.length x.1) :: lenEnd ps x.2 y.2
/-- Where a result stands: in a temporary, or in a variable of a type at the address there. -/
abbrev ResAt := Tmp × Option TypeId
def resT : ResultVar → ResAt
  | .tmp t => (t, none)
  | .cell a t => (a, some t)
def resTmps (fn : Func) : List ResAt := fn.results.toList.map resT
def getS (P : Program) (rs : Regs) (tm : List AV) : List ResAt → Option (List SV)
  | [] => some []
  | (t, none) :: ts => match tm[t]?, getS P rs tm ts with
    | some (.s v), some vs => some (weakS v :: vs)
    | _, _ => none
  | (t, some ty) :: ts => match tm[t]?, getS P rs tm ts with
    | some (.s x), some vs => match loadV P rs ty x with
      | some v => some (v :: vs)
      | none => none
    | _, _ => none
def RK.ty : RK → Ty
  | .v t => t
  | .vn t => .ro t
  | .row t => t
  | .box t => t
  | .obox t => t
def PK.ty : PK → Ty
  | .v t => t
  | .box t => t
  | .row t => t
def plainS (S : Summ) : Bool := S.esc || (S.res.all (fun k => k.ty.noRo) && S.par.all (fun p => !p.io || p.ty.noRo))
def fin (P : Program) (S : Summ) (x : dens S.par) (ts : List ResAt) (nio : Nat) (e : AExit) (st : St) : Prop :=
  match e with
  | .exit _ => False
  | _ => match getS P st.regs st.tmps ts with
    | some vs => match resEnd st.regs S.res (S.fn x).1 vs, ioEnd st.regs S.par (S.fn x).2 0 with
      | some (vc, ids, ds), some vc2 => if nodupB ids && ids.all (fun r => decide (nio ≤ r) && !ds.contains r) && ds.all (fun r => decide (nio ≤ r)) then andAll (vc ++ vc2 ++ lenEnd S.par x (S.fn x).2) True else False
      | _, _ => False
    | none => False

end Go.Lift
