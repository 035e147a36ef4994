/- Lines for the functions of this seat; merged from texts of their own. -/
import Derived.Test.YtppemehkbnbjlaaLE
import Derived.IntWalk
import Derived.ChangeArms
import Derived.OpenShut
import Derived.SizedLaws
import Derived.Carry
import Derived.ChangeShapes
import Derived.WideShapes
set_option linter.unusedVariables false
set_option linter.unusedSimpArgs false
/- A function's contract out of its abstract run. -/
namespace Go.Lift
open Go

def Ty.noRo : Ty → Bool
  | .ro _ => false
  | .pair a b => a.noRo && b.noRo
  | .arr _ t => t.noRo
  | .own t => t.noRo
  | .ptr t => t.noRo
  | .map k v => k.noRo && v.noRo
  | _ => true
theorem Ty.rd_noRo {ok ok' : Nat → Prop} {w : World} : ∀ (t : Ty) (s : Sub) (x : t.den) (c : Nat → Option Value), t.noRo = true → t.rd ok w s x c → t.rd ok' w s x c := by
  intro t
  induction t with
  | int k => intro s x c _ h; exact h
  | bool => intro s x c _ h; exact h
  | str => intro s x c _ h; exact h
  | unit => intro s x c _ h; exact h
  | ro t ih => intro s x c h; simp [Ty.noRo] at h
  | pair a b iha ihb => intro s x c hn h; simp only [Ty.noRo, Bool.and_eq_true] at hn; exact ⟨iha _ _ _ hn.1 h.1, ihb _ _ _ hn.2 h.2⟩
  | arr n t ih => intro s x c hn h; simp only [Ty.noRo] at hn; exact ⟨h.1, fun i hi => ih _ _ _ hn (h.2 i hi)⟩
  | own t ih =>
    intro s xs c hn h hd
    obtain ⟨h1, h2, h3⟩ := h hd
    refine ⟨h1, h2, ?_⟩
    cases hb : (s []).blk with
    | none => simp only [hb] at h3 ⊢; exact h3
    | some b =>
      simp only [hb] at h3 ⊢
      obtain ⟨cs, ty, fz, e1, e2, e3, e4⟩ := h3
      exact ⟨cs, ty, fz, e1, e2, e3, fun i hi => ih _ _ _ hn (e4 i hi)⟩
  | ptr t ih =>
    intro s o c hn h hd
    obtain ⟨h1, h2⟩ := h hd
    refine ⟨h1, ?_⟩
    cases o with
    | none => exact h2
    | some x =>
      obtain ⟨e0, b, cs, ty, fz, e1, e2, e3, e4, e5⟩ := h2
      exact ⟨e0, b, cs, ty, fz, e1, e2, e3, e4, ih _ _ _ hn e5⟩
  | map k v ihk ihv =>
    intro s o c hn h hd
    simp only [Ty.noRo, Bool.and_eq_true] at hn
    obtain ⟨h1, h2⟩ := h hd
    refine ⟨h1, ?_⟩
    cases o with
    | none => exact h2
    | some es =>
      obtain ⟨e0, b, ms, clock, e1, e2, e3, d1, d2, e4⟩ := h2
      refine ⟨e0, b, ms, clock, e1, e2, e3, d1, d2, fun i hi hi' => ?_⟩
      obtain ⟨f1, f2, f3, f4, f5, f6⟩ := e4 i hi hi'
      exact ⟨ihk _ _ _ hn.1 f1, f2, f3, ihv _ _ _ hn.2 f4, f5, f6⟩
theorem VRel.noRo {ok ok' : Nat → Prop} {w : World} {t : Ty} {x : t.den} {v : Value} (hn : t.noRo = true) (h : VRel ok w t x v) : VRel ok' w t x v := ⟨Ty.rd_noRo _ _ _ _ hn h.1, h.2⟩
def Reg.noRo : Reg → Bool
  | .row t _ _ => t.noRo
  | .box t _ _ => t.noRo
  | .obox t _ _ => t.noRo
  | .mp k v _ _ => k.noRo && v.noRo
theorem Reg.at_noRo {ok ok' : Nat → Prop} {w : World} {l : Sub} {g : Reg} (hn : g.noRo = true) (h : g.at ok w l) : g.at ok' w l := by
  cases g with
  | row t xs H =>
    refine ⟨h.1, ?_⟩
    have h2 := h.2
    cases hb : (l []).blk with
    | none => simp only [hb] at h2 ⊢; exact h2
    | some b =>
      simp only [hb] at h2 ⊢
      obtain ⟨cs, ty, fz, e1, e2, e3, e4⟩ := h2
      exact ⟨cs, ty, fz, e1, e2, e3, fun i hi => Ty.rd_noRo _ _ _ _ hn (e4 i hi)⟩
  | box t x H =>
    obtain ⟨e0, b, cs, ty, fz, e1, e2, e3, e4, e5⟩ := h
    exact ⟨e0, b, cs, ty, fz, e1, e2, e3, e4, Ty.rd_noRo _ _ _ _ hn e5⟩
  | obox t o H =>
    cases o with
    | none => exact h
    | some x =>
      obtain ⟨e0, b, cs, ty, fz, e1, e2, e3, e4, e5⟩ := h
      exact ⟨e0, b, cs, ty, fz, e1, e2, e3, e4, Ty.rd_noRo _ _ _ _ hn e5⟩
  | mp k v o H =>
    simp only [Reg.noRo, Bool.and_eq_true] at hn
    cases o with
    | none => exact h
    | some es =>
      obtain ⟨e0, b, ms, clock, e1, e2, e3, d1, d2, e4⟩ := h
      refine ⟨e0, b, ms, clock, e1, e2, e3, d1, d2, fun i hi hi' => ?_⟩
      obtain ⟨f1, f2, f3, f4, f5, f6⟩ := e4 i hi hi'
      exact ⟨Ty.rd_noRo _ _ _ _ hn.1 f1, f2, f3, Ty.rd_noRo _ _ _ _ hn.2 f4, f5, f6⟩

/-! ### how a call begins -/
def initT : (ps : List PK) → dens ps → Nat → List AV
  | [], _, _ => []
  | .v t :: ps, x, n => .s (.val t x.1) :: initT ps x.2 n
  | .nl :: ps, x, n => .s .nilsl :: initT ps x.2 n
  | .fn0 f :: ps, x, n => .fn f [] :: initT ps x.2 n
  | .fnr f t :: ps, x, n => .s (.fnr f t x.1) :: initT ps x.2 n
  | .ref t :: ps, x, n => .s (.ra t x.1) :: initT ps x.2 n
  | .box _ :: ps, x, n => .s (.addr n []) :: initT ps x.2 (n + 1)
  | .row _ :: ps, x, n => .s (.sl n) :: initT ps x.2 (n + 1)
  | .obox _ :: ps, x, n => .s (.addr n []) :: initT ps x.2 (n + 1)
  | .mp _ _ :: ps, x, n => .s (.mp n) :: initT ps x.2 (n + 1)
def initR : (ps : List PK) → dens ps → Nat → Regs
  | [], _, _ => []
  | .v _ :: ps, x, n => initR ps x.2 n
  | .nl :: ps, x, n => initR ps x.2 n
  | .fn0 _ :: ps, x, n => initR ps x.2 n
  | .fnr _ _ :: ps, x, n => initR ps x.2 n
  | .ref _ :: ps, x, n => initR ps x.2 n
  | .box t :: ps, x, n => (n, .box t x.1 []) :: initR ps x.2 (n + 1)
  | .row t :: ps, x, n => (n, .row t x.1 []) :: initR ps x.2 (n + 1)
  | .obox t :: ps, x, n => (n, .obox t x.1 []) :: initR ps x.2 (n + 1)
  | .mp k v :: ps, x, n => (n, .mp k v x.1 []) :: initR ps x.2 (n + 1)
def ioCount (ps : List PK) : Nat := (ps.filter PK.io).length
def initSt (ps : List PK) (x : dens ps) (ntmps : Nat) : St :=
  { tmps := initT ps x 0 ++ List.replicate (ntmps - ps.length) (.s .undef), regs := initR ps x 0, next := ioCount ps, gh := [] }

/-! ### how it ends -/
def nnil (v : SV) (p : Prop) : Prop :=
  match v with
  | .nilsl => True
  | _ => p
/-- One result: what must hold, the region handed out, those given up. -/
def resOne (rs : Regs) : (k : RK) → k.den → SV → Option (List Prop × List (Option Nat) × List Nat)
  | .v t, y, v => match toVal rs v t with
    | some (z, l, []) => some ([z = y], [], l)
    | _ => none
  | .vn t, y, v => match toVal rs v (.ro t) with
    | some (z, l, []) => some ([(z : List t.den) = y, nnil v ((z : List t.den) ≠ [])], [], l)
    | _ => none
  | .row t, y, v => match v with
    | .sl r => match look rs r with
      | some (.row t' xs []) => match castTy (.ro t') (.ro t) xs with
        | some z => some ([(z : List t.den) = y], [some r], [])
        | none => none
      | _ => none
    | .nilsl => some ([([] : List t.den) = y], [none], [])
    | _ => none
  | .box t, y, v => match v with
    | .addr r [] => match look rs r with
      | some (.box t' x []) => match castTy t' t x with
        | some z => some ([z = y], [some r], [])
        | none => none
      | _ => none
    | _ => none
  | .obox t, y, v => match v with
    | .addr r [] => match look rs r with
      | some (.box t' x []) => match castTy t' t x with
        | some z => some ([some z = y], [some r], [])
        | none => none
      | some (.obox t' x []) => match castTy (.ptr t') (.ptr t) x with
        | some z => some ([(z : Option t.den) = y], [some r], [])
        | none => none
      | _ => none
    | .nilp => some ([(none : Option t.den) = y], [none], [])
    | _ => none
  | .mp k vt, y, v => match v with
    | .mp r => match look rs r with
      | some (.mp k' v' o []) => match castTy (.map k' v') (.map k vt) o with
        | some z => some ([(z : Option (List (k.den × vt.den))) = y], [some r], [])
        | none => none
      | _ => none
    | _ => none
/-- The results: what must hold, the regions handed out, those given up. -/
def resEnd (rs : Regs) : (ks : List RK) → rdens ks → List SV → Option (List Prop × List (Option Nat) × List Nat)
  | [], _, [] => some ([], [], [])
  | k :: ks, y, v :: vs => match resOne rs k y.1 v, resEnd rs ks y.2 vs with
    | some (vc, is, l), some (vc', ids, ds) => some (vc ++ vc', is ++ ids, l ++ ds)
    | _, _ => none
  | _, _, _ => none
/-- One parameter that may be written. -/
def ioOne : (p : PK) → p.out → Reg → Option (List Prop)
  | .box t, y, g => match g with
    | .box t' x [] => (castTy t' t x).map fun z => [z = y]
    | _ => none
  | .row t, y, g => match g with
    | .row t' xs [] => (castTy (.ro t') (.ro t) xs).map fun z => [(z : List t.den) = y]
    | _ => none
  | .obox t, y, g => match g with
    | .box t' x [] => (castTy t' t x).map fun z => [some z = y]
    | .obox t' o [] => (castTy (.ptr t') (.ptr t) o).map fun z => [(z : Option t.den) = y]
    | _ => none
  | .mp k v, y, g => match g with
    | .mp k' v' o [] => (castTy (.map k' v') (.map k v) o).map fun z => [(z : Option (List (k.den × v.den))) = y]
    | _ => none
  | _, _, _ => none
def ioEnd (rs : Regs) : (ps : List PK) → outs ps → Nat → Option (List Prop)
  | [], _, _ => some []
  | p :: ps, y, n => if p.io = true then (match look rs n with
    | some g => match ioOne p y.1 g, ioEnd rs ps y.2 (n + 1) with
      | some vc, some vc' => some (vc ++ vc')
      | _, _ => none
    | none => none) else ioEnd rs ps y.2 n
def lenEnd : (ps : List PK) → dens ps → outs ps → List Prop
  | [], _, _ => []
  | .v _ :: ps, x, y => lenEnd ps x.2 y.2
  | .nl :: ps, x, y => lenEnd ps x.2 y.2
  | .fn0 _ :: ps, x, y => lenEnd ps x.2 y.2
  | .fnr _ _ :: ps, x, y => lenEnd ps x.2 y.2
  | .ref _ :: ps, x, y => lenEnd ps x.2 y.2
  | .box _ :: ps, x, y => lenEnd ps x.2 y.2
  | .row _ :: ps, x, y => (List.length y.1 = List.length x.1) :: lenEnd ps x.2 y.2
  | .obox _ :: ps, x, y => (Option.isSome y.1 = Option.isSome x.1) :: lenEnd ps x.2 y.2
  | .mp _ _ :: ps, x, y => lenEnd ps x.2 y.2
/-- Where a result stands: in a temporary, or in a variable of a type at the address there. -/
abbrev ResAt := Tmp × Option TypeId
def resT : ResultVar → ResAt
  | .tmp t => (t, none)
  | .cell a t => (a, some t)
def resTmps (fn : Func) : List ResAt := fn.results.toList.map resT
def getS (P : Program) (rs : Regs) (tm : List AV) : List ResAt → Option (List Prop × List SV)
  | [] => some ([], [])
  | (t, none) :: ts => match tm[t]?, getS P rs tm ts with
    | some (.s v), some (vc, vs) => some (vc, weakS v :: vs)
    | _, _ => none
  | (t, some ty) :: ts => match tm[t]?, getS P rs tm ts with
    | some (.s x), some (vc', vs) => match loadV P rs ty x with
      | some (vc, v) => some (vc ++ vc', v :: vs)
      | none => none
    | _, _ => none
def RK.ro : RK → Bool
  | .v t => t.noRo
  | .vn _ => false
  | .row t => t.noRo
  | .box t => t.noRo
  | .obox t => t.noRo
  | .mp k vt => k.noRo && vt.noRo
def PK.ro : PK → Bool
  | .v t => t.noRo
  | .nl => true
  | .fn0 _ => true
  | .fnr _ t => t.noRo
  | .ref t => t.noRo
  | .box t => t.noRo
  | .row t => t.noRo
  | .obox t => t.noRo
  | .mp k vt => k.noRo && vt.noRo
def plainS (S : Summ) : Bool := S.esc || (S.res.all RK.ro && S.par.all (fun p => !p.io || p.ro))
def ioIds (n : Nat) : List (Option Nat) := (List.range n).map some
def endOK (nio : Nat) (ids : List (Option Nat)) (ds : List Nat) : Bool :=
  nodupB (ids.filterMap id) && (ids.filterMap id).all (fun r => decide (nio ≤ r) && !ds.contains r) && ds.all (fun r => decide (nio ≤ r))
def finS (P : Program) (S : Summ) (x : dens S.par) (ts : List ResAt) (nio : Nat) (st : St) : Prop :=
  match getS P st.regs st.tmps ts with
  | some (vc0, vs) => match resEnd st.regs S.res (S.fn x).1 vs, ioEnd st.regs S.par (S.fn x).2 0 with
    | some (vc, ids, ds), some vc2 => if endOK nio ids ds = true then andAll (vc0 ++ (vc ++ vc2 ++ lenEnd S.par x (S.fn x).2)) True else False
    | _, _ => False
  | none => False
/-- All is shut, then read. -/
def fin (P : Program) (S : Summ) (x : dens S.par) (ts : List ResAt) (nio : Nat) (e : AExit) (st : St) : Prop :=
  match e with
  | .exit _ => False
  | _ => finS P S x ts nio { st with regs := closeAll 64 (List.range nio) st.regs }

end Go.Lift
/- A function's contract out of its abstract run: soundness. -/
namespace Go.Lift
open Go

theorem PsRel.length {ok okO : Nat → Prop} {w : World} : ∀ (ps : List PK) {x : dens ps} {vs : List Value} {ls : List Sub}, PsRel ok okO w ps x vs ls → vs.length = ps.length ∧ ls.length = ps.length
  | [], _, _, _, h => by obtain ⟨rfl, rfl⟩ := h; exact ⟨rfl, rfl⟩
  | p :: ps, _, _, _, h => by
    obtain ⟨v, vs, l, ls, rfl, rfl, _, h⟩ := h
    obtain ⟨h1, h2⟩ := PsRel.length ps h
    exact ⟨by simp [h1], by simp [h2]⟩

/-- A parameter that may be written: its region. -/
theorem init_io {p : PK} (hp : p.io = true) (ps : List PK) (x : dens (p :: ps)) (n : Nat) :
    ∃ g : Reg, initT (p :: ps) x n = tok n g :: initT ps x.2 (n + 1) ∧ initR (p :: ps) x n = (n, g) :: initR ps x.2 (n + 1) ∧ g.holes = [] ∧
      (tok n g).ltB (n + 1) = true ∧ ∀ ok okO w v l, PRel ok okO w p x.1 v l → g.at okO w l ∧ Good w l ∧ v = hdr l g := by
  cases p with
  | v t => cases hp
  | nl => cases hp
  | fn0 f => cases hp
  | fnr f t => cases hp
  | ref t => cases hp
  | box t => exact ⟨.box t x.1 [], rfl, rfl, rfl, by simp [tok, AV.ltB, SV.ltB], fun _ _ _ _ _ h => h⟩
  | row t => exact ⟨.row t x.1 [], rfl, rfl, rfl, by simp [tok, AV.ltB, SV.ltB], fun _ _ _ _ _ h => h⟩
  | obox t => exact ⟨.obox t x.1 [], rfl, rfl, rfl, by simp [tok, AV.ltB, SV.ltB], fun _ _ _ _ _ h => h⟩
  | mp k vt => exact ⟨.mp k vt x.1 [], rfl, rfl, rfl, by simp [tok, AV.ltB, SV.ltB], fun _ _ _ _ _ h => h⟩
theorem init_no {p : PK} (hp : p.io = false) (ps : List PK) (x : dens (p :: ps)) (n : Nat) :
    ∃ av : AV, initT (p :: ps) x n = av :: initT ps x.2 n ∧ initR (p :: ps) x n = initR ps x.2 n ∧ (∀ k, av.ltB k = true) ∧
      ∀ ok okO okk w v l rs φ, (∀ b o, ok b → w.heap[b]? = some o → okk b ∧ w.heap[b]? = some o) → PRel ok okO w p x.1 v l → AVRel rs φ okk w av v := by
  cases p with
  | v t => exact ⟨.s (.val t x.1), rfl, rfl, fun _ => rfl, fun _ _ _ _ _ _ _ _ hm h => VRel.mono hm h⟩
  | nl => exact ⟨.s .nilsl, rfl, rfl, fun _ => rfl, fun _ _ _ _ _ _ _ _ _ h => h⟩
  | fnr f t =>
    refine ⟨.s (.fnr f t x.1), rfl, rfl, fun _ => rfl, fun _ _ _ _ _ _ _ _ hm h => ?_⟩
    obtain ⟨b, o, cs, ty, fz, e1, e2, e3, e4⟩ := h
    exact ⟨b, o, cs, ty, fz, e1, (hm _ _ e2 e3).1, e3, Ty.rd_mono hm _ _ _ e4⟩
  | fn0 f => exact ⟨.fn f [], rfl, rfl, fun _ => rfl, fun _ _ _ _ _ _ _ _ _ h => ⟨#[], h, .nil⟩⟩
  | ref t =>
    refine ⟨.s (.ra t x.1), rfl, rfl, fun _ => rfl, fun _ _ _ _ _ _ _ _ hm h => ?_⟩
    obtain ⟨b, o, cs, ty, fz, e1, e2, e3, e4⟩ := h
    exact ⟨b, o, cs, ty, fz, e1, (hm _ _ e2 e3).1, e3, Ty.rd_mono hm _ _ _ e4⟩
  | box t => cases hp
  | row t => cases hp
  | obox t => cases hp
  | mp k vt => cases hp
theorem ioCount_io {p : PK} (hp : p.io = true) (ps : List PK) : ioCount (p :: ps) = ioCount ps + 1 := by unfold ioCount; rw [List.filter_cons_of_pos hp]; rfl
theorem ioCount_no {p : PK} (hp : p.io = false) (ps : List PK) : ioCount (p :: ps) = ioCount ps := by unfold ioCount; rw [List.filter_cons_of_neg (by simp [hp])]
theorem ioLocs_io {p : PK} (hp : p.io = true) (ps : List PK) (l : Sub) (ls : List Sub) : ioLocs (p :: ps) (l :: ls) = l :: ioLocs ps ls := by simp [ioLocs, hp]
theorem ioLocs_no {p : PK} (hp : p.io = false) (ps : List PK) (l : Sub) (ls : List Sub) : ioLocs (p :: ps) (l :: ls) = ioLocs ps ls := by simp [ioLocs, hp]

theorem initT_length : ∀ (ps : List PK) (x : dens ps) (n : Nat), (initT ps x n).length = ps.length
  | [], _, _ => rfl
  | p :: ps, x, n => by cases p <;> simp [initT, initT_length ps]
theorem ioLocs_length : ∀ (ps : List PK) (ls : List Sub), ls.length = ps.length → (ioLocs ps ls).length = ioCount ps
  | [], ls, _ => by simp [ioLocs, ioCount]
  | p :: ps, [], h => by simp at h
  | p :: ps, l :: ls, h => by
    have := ioLocs_length ps ls (by simpa using h)
    cases hp : p.io with
    | true => rw [ioLocs_io hp, ioCount_io hp]; simp [this]
    | false => rw [ioLocs_no hp, ioCount_no hp]; exact this

/-- How a call's own regions begin. -/
theorem init_reg {okO : Nat → Prop} {ok : Nat → Prop} {w : World} : ∀ (ps : List PK) (x : dens ps) (args : List Value) (ls : List Sub) (n r : Nat) (g : Reg), PsRel ok okO w ps x args ls → look (initR ps x n) r = some g →
    n ≤ r ∧ g.holes = [] ∧ ∃ l, (ioLocs ps ls)[r - n]? = some l ∧ g.at okO w l ∧ Good w l
  | [], _, _, _, _, _, _, _, h => by simp [initR, look] at h
  | p :: ps, x, args, ls, n, r, g, h, hl => by
    obtain ⟨v, vs, l, ls', rfl, rfl, hp, ht⟩ := h
    cases hio : p.io with
    | false =>
      obtain ⟨av, _, e2, _⟩ := init_no hio ps x n
      rw [e2] at hl
      rw [ioLocs_no hio]
      exact init_reg ps x.2 vs ls' n r g ht hl
    | true =>
      obtain ⟨g0, _, e2, e3, _, e4⟩ := init_io hio ps x n
      rw [e2] at hl
      rw [ioLocs_io hio]
      simp only [look] at hl
      split at hl
      · rename_i e; subst e; cases hl
        obtain ⟨h1, h2, _⟩ := e4 _ _ _ _ _ hp
        exact ⟨Nat.le_refl _, e3, l, by simp, h1, h2⟩
      · obtain ⟨h1, h2, l', h3, h4⟩ := init_reg ps x.2 vs ls' (n + 1) r g ht hl
        refine ⟨by omega, h2, l', ?_, h4⟩
        rw [show r - n = (r - (n + 1)) + 1 from by omega]
        simpa using h3
theorem AVRel.tok {rs : Regs} {φ : Phi} {ok ok' : Nat → Prop} {w : World} {r : Nat} {g : Reg} {v : Value} (hl : look rs r = some g) (h : AVRel rs φ ok w (tok r g) v) : AVRel rs φ ok' w (tok r g) v := by
  cases g <;> exact h
theorem AV.ltB_mono {n m : Nat} (h : n ≤ m) {r : Nat} {g : Reg} (hl : (Lift.tok r g).ltB n = true) : (Lift.tok r g).ltB m = true := by
  cases g <;> (simp [Lift.tok, AV.ltB, SV.ltB] at hl ⊢; omega)
theorem init_tm {ok okO okk : Nat → Prop} {w : World} {φ : Phi} (h1 : ∀ b o, ok b → w.heap[b]? = some o → okk b ∧ w.heap[b]? = some o) :
    ∀ (ps : List PK) (x : dens ps) (args : List Value) (ls : List Sub) (n : Nat) (rs : Regs), PsRel ok okO w ps x args ls → (∀ k l, (ioLocs ps ls)[k]? = some l → φ (n + k) = l) → (∀ r, n ≤ r → look rs r = look (initR ps x n) r) →
      ∀ (i : Nat) (av : AV), (initT ps x n)[i]? = some av → AVRel rs φ okk w av (args.getD i undef) ∧ av.ltB (n + ioCount ps) = true
  | [], x, args, ls, n, rs, h, _, _ => by simp [initT]
  | p :: ps, x, args, ls, n, rs, h, hφ, hrs => by
    obtain ⟨v, vs, l, ls', rfl, rfl, hp, ht⟩ := h
    intro i av hi
    cases hio : p.io with
    | false =>
      obtain ⟨av0, e1, e2, e3, e4⟩ := init_no hio ps x n
      rw [e1] at hi
      rw [ioCount_no hio]
      cases i with
      | zero =>
        simp only [List.getElem?_cons_zero, Option.some.injEq] at hi
        subst hi
        exact ⟨e4 _ _ _ _ _ _ _ _ h1 hp, e3 _⟩
      | succ i =>
        simp only [List.getElem?_cons_succ] at hi
        simpa using init_tm h1 ps x.2 vs ls' n rs ht (fun k l' hk => hφ k l' (by rw [ioLocs_no hio]; exact hk)) (fun r hr => by rw [hrs r hr, e2]) i av hi
    | true =>
      obtain ⟨g0, e1, e2, e3, e5, e4⟩ := init_io hio ps x n
      rw [e1] at hi
      rw [ioCount_io hio]
      have hφ0 : φ n = l := by have := hφ 0 l (by rw [ioLocs_io hio]; rfl); simpa using this
      obtain ⟨k1, k2, k3⟩ := e4 _ _ _ _ _ hp
      cases i with
      | zero =>
        simp only [List.getElem?_cons_zero, Option.some.injEq] at hi
        subst hi
        have hl : look rs n = some g0 := by rw [hrs n (Nat.le_refl _), e2]; simp [look]
        refine ⟨?_, AV.ltB_mono (by omega) e5⟩
        have := tok_rel (φ := φ) (ok := okO) (w := w) hl (by rw [hφ0]; exact k1)
        rw [show (v :: vs).getD 0 undef = v from rfl, k3, ← hφ0]
        exact AVRel.tok hl this
      | succ i =>
        simp only [List.getElem?_cons_succ] at hi
        have := init_tm h1 ps x.2 vs ls' (n + 1) rs ht (fun k l' hk => by
          rw [show n + 1 + k = n + (k + 1) from by omega]
          exact hφ (k + 1) l' (by rw [ioLocs_io hio]; simpa using hk)) (fun r hr => by
          rw [hrs r (by omega), e2]
          simp only [look]
          rw [if_neg (by omega)]) i av hi
        rw [show n + (ioCount ps + 1) = n + 1 + ioCount ps from by omega]
        simpa using this
theorem initR_lt : ∀ (ps : List PK) (x : dens ps) (n r : Nat) (g : Reg), look (initR ps x n) r = some g → r < n + ioCount ps
  | [], _, _, _, _, h => by simp [initR, look] at h
  | p :: ps, x, n, r, g, h => by
    cases hio : p.io with
    | false =>
      obtain ⟨_, _, e2, _⟩ := init_no hio ps x n
      rw [e2] at h
      rw [ioCount_no hio]
      exact initR_lt ps x.2 n r g h
    | true =>
      obtain ⟨_, _, e2, _⟩ := init_io hio ps x n
      rw [e2] at h
      rw [ioCount_io hio]
      simp only [look] at h
      split at h
      · omega
      · have := initR_lt ps x.2 (n + 1) r g h; omega

def resF (tmps : Array Value) : ResultVar → Sem Value
  | .tmp t => pure (tmps.getD t undef)
  | .cell a t => do loadVar t (← asAddr (tmps.getD a undef))
theorem results_eq (fn : Func) (tmps : Array Value) : results fn tmps = (do
    let vs ← fn.results.mapM (resF tmps)
    pure (if h : vs.size = 1 then vs[0] else .tuple vs)) := rfl
/-- What the machine reads as the results. -/
def ResVals (P : Program) (w : World) (tmps : Array Value) : List ResAt → List Value → Prop
  | [], vs => vs = []
  | (t, none) :: ts, vs => ∃ vs', vs = tmps.getD t undef :: vs' ∧ ResVals P w tmps ts vs'
  | (t, some ty) :: ts, vs => ∃ v vs', vs = v :: vs' ∧ (do loadVar ty (← asAddr (tmps.getD t undef)) : Sem Value).run P w = .ok v w ∧ ResVals P w tmps ts vs'
theorem run_results {P : Program} {fn : Func} {tmps : Array Value} {w : World} {vs : List Value} (h : ResVals P w tmps (resTmps fn) vs) : (results fn tmps).run P w = .ok (retVal vs) w := by
  have key : ∀ (l : List ResultVar) (vs : List Value), ResVals P w tmps (l.map resT) vs → (l.mapM (resF tmps)).run P w = .ok vs w := by
    intro l
    induction l with
    | nil => intro vs h; have h : vs = [] := h; subst h; simp
    | cons r l ih =>
      intro vs h
      cases r with
      | cell a t =>
        obtain ⟨v, vs', rfl, h1, h2⟩ := h
        rw [List.mapM_cons]
        have h1' : (resF tmps (.cell a t)).run P w = .ok v w := h1
        simp only [Sem.run_bind, h1', Sem.run_pure, Result.andThen_ok, ih vs' h2]
      | tmp t =>
        obtain ⟨vs', rfl, h2⟩ := h
        rw [List.mapM_cons]
        simp only [Sem.run_bind, resF, Sem.run_pure, Result.andThen_ok, ih vs' h2]
  have hk := key _ vs h
  rw [results_eq]
  simp only [Array.mapM_eq_mapM_toList, Sem.run_bind, Sem.run_map, hk, Result.andThen_ok, Sem.run_pure]
  congr 1
  cases vs with
  | nil => rfl
  | cons t ts => cases ts with
    | nil => rfl
    | cons t2 ts => simp [retVal]
theorem asAddr_of_sure {P : Program} {w : World} {t : TypeId} {X V : Value} (h : (Instr.loadAt t X).run P w = .ok V w) : (do loadVar t (← asAddr X) : Sem Value).run P w = .ok V w := by
  cases X with
  | pointer a =>
    cases a with
    | some a => simpa [Instr.loadAt, Instr.sureAddr, asAddr] using h
    | none => simp [Instr.loadAt, Instr.sureAddr] at h
  | _ => simp [Instr.loadAt, Instr.sureAddr] at h
theorem getS_sound {cx : Cx} {φ : Phi} {st : St} {a : Act} {w : World} (R : RelF cx φ st a w) : ∀ (ts : List ResAt) (vs : List SV) (vc : List Prop), getS cx.P st.regs st.tmps ts = some (vc, vs) → (∀ p ∈ vc, p) →
    ∃ Vs, ResVals cx.P w a.tmps ts Vs ∧ All2 (SVRel st.regs φ (okOf st.regs φ) w) vs Vs
  | [], vs, vc, h, _ => by simp only [getS, Option.some.injEq, Prod.mk.injEq] at h; obtain ⟨_, rfl⟩ := h; exact ⟨[], rfl, .nil⟩
  | (t, none) :: ts, vs, vc, h, hvc => by
    simp only [getS] at h
    split at h
    · rename_i v vc' vs' h1 h2
      cases h
      obtain ⟨Vs, k1, k2⟩ := getS_sound R ts vs' _ h2 hvc
      exact ⟨_, ⟨Vs, rfl, k1⟩, .cons (weakS_sound (R.tm t _ h1)) k2⟩
    · cases h
  | (t, some ty) :: ts, vs, vc, h, hvc => by
    simp only [getS] at h
    split at h
    · rename_i x vc' vs' h1 h2
      split at h
      · rename_i vc0 v hl
        cases h
        obtain ⟨Vs, k1, k2⟩ := getS_sound R ts vs' _ h2 (fun p hp => hvc p (List.mem_append_right _ hp))
        obtain ⟨V, l1, l2⟩ := loadV_sound R hl (fun p hp => hvc p (List.mem_append_left _ hp)) (R.tm t _ h1)
        exact ⟨_, ⟨V, Vs, rfl, asAddr_of_sure l1, k1⟩, .cons l2 k2⟩
      · cases h
    · cases h

end Go.Lift
/- A function's contract out of its abstract run: the whole. -/
namespace Go.Lift
open Go

def locO (φ : Phi) : Option Nat → Sub
  | some r => φ r
  | none => mkSub none 0 0
theorem locO_has {φ : Phi} {i : Option Nat} {b : Nat} (h : (locO φ i).has b) : ∃ r, i = some r ∧ (φ r).has b := by
  cases i with
  | none => have := mkSub_has.1 h; cases this
  | some r => exact ⟨r, rfl, h⟩

theorem resOne_sound {cx : Cx} {φ : Phi} {st : St} {a : Act} {w : World} (R : RelF cx φ st a w) {D : List Nat} {esc : Bool} {tgt : Nat → Prop}
    (ht : esc = true → ∀ b, okOf (dels st.regs D) φ b → tgt b) {k : RK} {y : k.den} {v : SV} {V : Value} {vc : List Prop} {is : List (Option Nat)} {l : List Nat}
    (h : resOne st.regs k y v = some (vc, is, l)) (hvc : ∀ p ∈ vc, p) (hD : ∀ r ∈ l, r ∈ D) (hn : esc = true ∨ k.ro = true) (hv : SVRel st.regs φ (okOf st.regs φ) w v V)
    {ks : List RK} {ys : rdens ks} {Vs : List Value} {ls : List Sub} (hrest : RsRel tgt w ks ys Vs ls) :
    RsRel tgt w (k :: ks) (y, ys) (V :: Vs) (is.map (locO φ) ++ ls) ∧ ∀ r, some r ∈ is → ∃ g, look st.regs r = some g ∧ g.holes = [] := by
  have L := R.lay
  have hreg : ∀ (g : Reg) (l : Sub), (esc = true ∨ g.noRo = true) → g.at (okOf st.regs φ) w l → g.at tgt w l := by
    intro g l h hg
    rcases h with h | h
    · exact Reg.at_mono (fun b o h1 h2 => ⟨ht h b (okOf_dels D h1), h2⟩) (fun _ _ => rfl) (fun _ _ _ _ => rfl) hg
    · exact Reg.at_noRo h hg
  have hsub : ∀ b, okOf (dels st.regs l) φ b → okOf (dels st.regs D) φ b := fun b hb => ⟨fun r g hg => by
    rw [look_dels] at hg
    split at hg
    · cases hg
    · rename_i hnD
      exact hb.1 r g (by rw [look_dels, if_neg fun hl => hnD (hD r hl)]; exact hg), hb.2⟩
  cases k with
  | v t =>
    simp only [resOne] at h
    split at h
    · rename_i z l' hz
      cases h
      have e : z = y := hvc _ (by simp)
      have hV := (toVal_sound R hz hv).1.val
      refine ⟨⟨V, Vs, rfl, ?_, hrest⟩, by simp⟩
      show VRel tgt w t y V
      rw [← e]
      rcases hn with h1 | h1
      · exact VRel.mono (fun b o h2 h3 => ⟨ht h1 b (hsub b h2), h3⟩) hV
      · exact VRel.noRo h1 hV
    · cases h
  | vn t =>
    simp only [resOne] at h
    split at h
    · rename_i z l' hz
      cases h
      have e : z = y := hvc _ (by simp)
      have hV := (toVal_sound R hz hv).1.val
      have hnn := hvc (nnil v ((z : List t.den) ≠ [])) (by simp)
      refine ⟨⟨V, Vs, rfl, ⟨?_, fun hy => ?_⟩, hrest⟩, by simp⟩
      · show VRel tgt w (.ro t) y V
        rw [← e]
        rcases hn with h1 | h1
        · exact VRel.mono (fun b o h2 h3 => ⟨ht h1 b (hsub b h2), h3⟩) hV
        · cases h1
      · unfold nnil at hnn
        split at hnn
        · exact hv
        · exact (hnn (by rw [e]; exact hy)).elim
    · cases h
  | row t =>
    simp only [resOne] at h
    split at h
    · rename_i r
      split at h
      · rename_i t' xs hl
        split at h
        · rename_i z hz
          cases h
          obtain ⟨e1, e2⟩ := castTy_some hz
          cases e1
          subst e2
          have e : xs = y := hvc _ (by simp)
          refine ⟨⟨V, Vs, φ r, ls, rfl, rfl, ⟨?_, ?_⟩, hrest⟩, ?_⟩
          · rw [← e]; exact hreg _ _ hn (L.rg r _ hl)
          · rw [← e]; exact hv _ _ _ hl
          · intro s hs
            simp only [List.mem_singleton, Option.some.injEq] at hs
            exact ⟨_, hs ▸ hl, rfl⟩
        · cases h
      · cases h
    · cases h
      have e : [] = y := hvc _ (by simp)
      refine ⟨⟨V, Vs, mkSub none 0 0, ls, rfl, rfl, ⟨?_, ?_⟩, hrest⟩, by simp⟩
      · rw [← e]; exact ⟨Nat.le_refl _, rfl⟩
      · rw [← e]; exact hv
    · cases h
  | box t =>
    simp only [resOne] at h
    split at h
    · rename_i r
      split at h
      · rename_i t' x hl
        split at h
        · rename_i z hz
          cases h
          obtain ⟨e1, e2⟩ := castTy_some hz
          subst e1
          subst e2
          have e : x = y := hvc _ (by simp)
          refine ⟨⟨V, Vs, φ r, ls, rfl, rfl, ⟨?_, ?_⟩, hrest⟩, ?_⟩
          · rw [← e]; exact hreg _ _ hn (L.rg r _ hl)
          · rw [← e]; exact addr_hdr (hv _ hl) (by simp)
          · intro s hs
            simp only [List.mem_singleton, Option.some.injEq] at hs
            exact ⟨_, hs ▸ hl, rfl⟩
        · cases h
      · cases h
    · cases h
  | obox t =>
    simp only [resOne] at h
    split at h
    · rename_i r
      split at h
      · rename_i t' x hl
        split at h
        · rename_i z hz
          cases h
          obtain ⟨e1, e2⟩ := castTy_some hz
          subst e1
          subst e2
          have e : some x = y := hvc _ (by simp)
          refine ⟨⟨V, Vs, φ r, ls, rfl, rfl, ⟨?_, ?_⟩, hrest⟩, ?_⟩
          · rw [← e]; exact hreg (.box t' x []) _ hn (L.rg r _ hl)
          · rw [← e]; have h9 := addr_hdr (hv _ hl) (by simp); exact h9
          · intro s hs
            simp only [List.mem_singleton, Option.some.injEq] at hs
            exact ⟨_, hs ▸ hl, rfl⟩
        · cases h
      · rename_i t' o hl
        split at h
        · rename_i z hz
          cases h
          obtain ⟨e1, e2⟩ := castTy_some hz
          cases e1
          subst e2
          have e : o = y := hvc _ (by simp)
          refine ⟨⟨V, Vs, φ r, ls, rfl, rfl, ⟨?_, ?_⟩, hrest⟩, ?_⟩
          · rw [← e]; exact hreg _ _ hn (L.rg r _ hl)
          · rw [← e]; exact addr_hdr (hv _ hl) (by simp)
          · intro s hs
            simp only [List.mem_singleton, Option.some.injEq] at hs
            exact ⟨_, hs ▸ hl, rfl⟩
        · cases h
      · cases h
    · cases h
      have e : none = y := hvc _ (by simp)
      refine ⟨⟨V, Vs, mkSub none 0 0, ls, rfl, rfl, ⟨?_, ?_⟩, hrest⟩, by simp⟩
      · rw [← e]; rfl
      · rw [← e]; exact hv
    · cases h
  | mp k' vt =>
    simp only [resOne] at h
    split at h
    · rename_i r
      split at h
      · rename_i k2 v2 o hl
        split at h
        · rename_i z hz
          cases h
          obtain ⟨e1, e2⟩ := castTy_some hz
          cases e1
          subst e2
          have e : o = y := hvc _ (by simp)
          refine ⟨⟨V, Vs, φ r, ls, rfl, rfl, ⟨?_, ?_⟩, hrest⟩, ?_⟩
          · rw [← e]; exact hreg _ _ hn (L.rg r _ hl)
          · rw [← e]; exact hv _ _ _ _ hl
          · intro s hs
            simp only [List.mem_singleton, Option.some.injEq] at hs
            exact ⟨_, hs ▸ hl, rfl⟩
        · cases h
      · cases h
    · cases h

theorem resEnd_sound {cx : Cx} {φ : Phi} {st : St} {a : Act} {w : World} (R : RelF cx φ st a w) (D : List Nat) (esc : Bool) {tgt : Nat → Prop}
    (ht : esc = true → ∀ b, okOf (dels st.regs D) φ b → tgt b) :
    ∀ (ks : List RK) (y : rdens ks) (vs : List SV) (Vs : List Value) (vc : List Prop) (ids : List (Option Nat)) (ds : List Nat), resEnd st.regs ks y vs = some (vc, ids, ds) → (∀ p ∈ vc, p) → (∀ r ∈ ds, r ∈ D) →
      (esc = true ∨ ks.all RK.ro = true) → All2 (SVRel st.regs φ (okOf st.regs φ) w) vs Vs →
      RsRel tgt w ks y Vs (ids.map (locO φ)) ∧ ∀ r, some r ∈ ids → ∃ g, look st.regs r = some g ∧ g.holes = [] := by
  intro ks
  induction ks with
  | nil =>
    intro y vs Vs vc ids ds h hvc hD hn hall
    cases vs with
    | nil =>
      cases hall
      simp only [resEnd, Option.some.injEq, Prod.mk.injEq] at h
      obtain ⟨_, rfl, _⟩ := h
      exact ⟨⟨rfl, rfl⟩, by simp⟩
    | cons v vs => simp [resEnd] at h
  | cons k ks ih =>
    intro y vs Vs vc ids ds h hvc hD hn hall
    have hnt : esc = true ∨ ks.all RK.ro = true := by
      rcases hn with hn | hn
      · exact .inl hn
      · simp only [List.all_cons, Bool.and_eq_true] at hn; exact .inr hn.2
    have hnh : esc = true ∨ k.ro = true := by
      rcases hn with hn | hn
      · exact .inl hn
      · simp only [List.all_cons, Bool.and_eq_true] at hn; exact .inr hn.1
    cases vs with
    | nil => simp [resEnd] at h
    | cons v vs =>
      cases hall with
      | @cons _ V _ Vs' hv hall' =>
      simp only [resEnd] at h
      split at h
      · rename_i vc1 is l vc2 ids' ds' h1 h2
        cases h
        obtain ⟨i1, i2⟩ := ih y.2 vs Vs' vc2 ids' ds' h2 (fun p hp => hvc p (List.mem_append_right _ hp)) (fun r hr => hD r (List.mem_append_right _ hr)) hnt hall'
        obtain ⟨j1, j2⟩ := resOne_sound R ht h1 (fun p hp => hvc p (List.mem_append_left _ hp)) (fun r hr => hD r (List.mem_append_left _ hr)) hnh hv i1
        rw [List.map_append]
        refine ⟨j1, fun r hr => ?_⟩
        rcases List.mem_append.1 hr with hr | hr
        · exact j2 r hr
        · exact i2 r hr
      · cases h

theorem ioOne_sound {p : PK} (hp : p.io = true) {y : p.out} {g : Reg} {vc : List Prop} (h : ioOne p y g = some vc) (hvc : ∀ q ∈ vc, q) :
    g.holes = [] ∧ (p.ro = true → g.noRo = true) ∧ ∀ {ok : Nat → Prop} {w : World} {l : Sub} {ps : List PK} {ys : outs ps} {ls : List Sub}, g.at ok w l → OutRel ok w ps ys ls → OutRel ok w (p :: ps) (y, ys) (l :: ls) := by
  cases p with
  | v t => cases hp
  | nl => cases hp
  | fn0 f => cases hp
  | fnr f t => cases hp
  | ref t => cases hp
  | box t =>
    simp only [ioOne] at h
    split at h
    · rename_i t' x
      rw [Option.map_eq_some_iff] at h
      obtain ⟨z, hz, e⟩ := h
      cases e
      obtain ⟨e1, e2⟩ := castTy_some hz
      subst e1; subst e2
      have e : x = y := hvc _ (by simp)
      subst e
      exact ⟨rfl, id, fun h1 h2 => ⟨_, _, rfl, h1, h2⟩⟩
    · cases h
  | row t =>
    simp only [ioOne] at h
    split at h
    · rename_i t' x
      rw [Option.map_eq_some_iff] at h
      obtain ⟨z, hz, e⟩ := h
      cases e
      obtain ⟨e1, e2⟩ := castTy_some hz
      cases e1; subst e2
      have e : x = y := hvc _ (by simp)
      subst e
      exact ⟨rfl, id, fun h1 h2 => ⟨_, _, rfl, h1, h2⟩⟩
    · cases h
  | obox t =>
    simp only [ioOne] at h
    split at h
    · rename_i t' x
      rw [Option.map_eq_some_iff] at h
      obtain ⟨z, hz, e⟩ := h
      cases e
      obtain ⟨e1, e2⟩ := castTy_some hz
      subst e1; subst e2
      have e : some x = y := hvc _ (by simp)
      subst e
      exact ⟨rfl, id, fun h1 h2 => ⟨_, _, rfl, h1, h2⟩⟩
    · rename_i t' x
      rw [Option.map_eq_some_iff] at h
      obtain ⟨z, hz, e⟩ := h
      cases e
      obtain ⟨e1, e2⟩ := castTy_some hz
      cases e1; subst e2
      have e : x = y := hvc _ (by simp)
      subst e
      exact ⟨rfl, id, fun h1 h2 => ⟨_, _, rfl, h1, h2⟩⟩
    · cases h
  | mp k vt =>
    simp only [ioOne] at h
    split at h
    · rename_i t' x
      rw [Option.map_eq_some_iff] at h
      obtain ⟨z, hz, e⟩ := h
      cases e
      obtain ⟨e1, e2⟩ := castTy_some hz
      cases e1; subst e2
      have e : x = y := hvc (x = y) (List.mem_cons_self ..)
      subst e
      exact ⟨rfl, id, fun h1 h2 => ⟨_, _, rfl, h1, h2⟩⟩
    · cases h

theorem OutRel_no {p : PK} (hp : p.io = false) {ok : Nat → Prop} {w : World} {ps : List PK} {y : outs (p :: ps)} {ls : List Sub} (h : OutRel ok w ps y.2 ls) : OutRel ok w (p :: ps) y ls := by
  cases p <;> first | (cases hp; done) | exact h

theorem ioEnd_sound {cx : Cx} {φ : Phi} {st : St} {a : Act} {w : World} (R : RelF cx φ st a w) (esc : Bool) {tgt : Nat → Prop}
    (ht : esc = true → ∀ b, okOf st.regs φ b → tgt b) :
    ∀ (ps : List PK) (y : outs ps) (n : Nat) (vc : List Prop), ioEnd st.regs ps y n = some vc → (∀ p ∈ vc, p) → (esc = true ∨ ps.all (fun p => !p.io || p.ro) = true) →
      OutRel tgt w ps y ((List.range' n (ioCount ps)).map φ) ∧ ∀ r, n ≤ r → r < n + ioCount ps → ∃ g, look st.regs r = some g ∧ g.holes = [] := by
  have hreg : ∀ (g : Reg) (l : Sub), (esc = true ∨ g.noRo = true) → g.at (okOf st.regs φ) w l → g.at tgt w l := by
    intro g l h hg
    rcases h with h | h
    · exact Reg.at_mono (fun b o h1 h2 => ⟨ht h b h1, h2⟩) (fun _ _ => rfl) (fun _ _ _ _ => rfl) hg
    · exact Reg.at_noRo h hg
  intro ps
  induction ps with
  | nil =>
    intro y n vc h hvc hn
    refine ⟨?_, fun r h1 h2 => ?_⟩
    · show (List.range' n (ioCount [])).map φ = []
      simp [ioCount]
    · simp [ioCount] at h2; omega
  | cons p ps ih =>
    intro y n vc h hvc hn
    have hnt : esc = true ∨ ps.all (fun p => !p.io || p.ro) = true := by
      rcases hn with hn | hn
      · exact .inl hn
      · simp only [List.all_cons, Bool.and_eq_true] at hn; exact .inr hn.2
    simp only [ioEnd] at h
    cases hp : p.io with
    | false =>
      rw [hp, if_neg (by simp)] at h
      rw [ioCount_no hp]
      obtain ⟨i1, i2⟩ := ih y.2 n vc h hvc hnt
      exact ⟨OutRel_no hp i1, i2⟩
    | true =>
      have hnh : esc = true ∨ p.ro = true := by
        rcases hn with hn | hn
        · exact .inl hn
        · simp only [List.all_cons, Bool.and_eq_true, hp, Bool.not_true, Bool.false_or] at hn; exact .inr hn.1
      rw [hp, if_pos rfl] at h
      rw [ioCount_io hp]
      split at h
      · rename_i g hl
        split at h
        · rename_i vc1 vc2 h1 h2
          cases h
          obtain ⟨i1, i2⟩ := ih y.2 (n + 1) vc2 h2 (fun q hq => hvc q (List.mem_append_right _ hq)) hnt
          obtain ⟨j1, j2, j3⟩ := ioOne_sound hp h1 (fun q hq => hvc q (List.mem_append_left _ hq))
          refine ⟨?_, fun r h3 h4 => ?_⟩
          · rw [List.range'_succ, List.map_cons]
            exact j3 (hreg g _ (hnh.imp id j2) (R.lay.rg n g hl)) i1
          · by_cases e : r = n
            · subst e; exact ⟨g, hl, j1⟩
            · exact i2 r (by omega) (by omega)
        · cases h
      · cases h

theorem lenEnd_spec : ∀ (ps : List PK) (x : dens ps) (y : outs ps), (∀ p ∈ lenEnd ps x y, p) → KindRel ps x y
  | [], _, _, _ => trivial
  | p :: ps, x, y, h => by
    cases p with
    | v t => exact lenEnd_spec ps x.2 y.2 h
    | nl => exact lenEnd_spec ps x.2 y.2 h
    | fn0 f => exact lenEnd_spec ps x.2 y.2 h
    | fnr f t => exact lenEnd_spec ps x.2 y.2 h
    | ref t => exact lenEnd_spec ps x.2 y.2 h
    | box t => exact lenEnd_spec ps x.2 y.2 h
    | mp k vt => exact lenEnd_spec ps x.2 y.2 h
    | row t => exact ⟨h _ (List.mem_cons_self ..), lenEnd_spec ps x.2 y.2 fun q hq => h q (List.mem_cons_of_mem _ hq)⟩
    | obox t => exact ⟨h _ (List.mem_cons_self ..), lenEnd_spec ps x.2 y.2 fun q hq => h q (List.mem_cons_of_mem _ hq)⟩

theorem some_idx : ∀ {l : List (Option Nat)} {i j : Nat} {r : Nat}, (l.filterMap id).Nodup → l[i]? = some (some r) → l[j]? = some (some r) → i = j
  | [], i, _, _, _, h, _ => by simp at h
  | x :: l, i, j, r, hn, hi, hj => by
    have hmem : ∀ {k : Nat}, l[k]? = some (some r) → r ∈ l.filterMap id := fun hk => List.mem_filterMap.2 ⟨some r, List.mem_of_getElem? hk, rfl⟩
    have hn' : (l.filterMap id).Nodup ∧ (x = some r → r ∉ l.filterMap id) := by
      cases x with
      | none => exact ⟨hn, fun h => by cases h⟩
      | some s =>
        have h2 : (s :: l.filterMap id).Nodup := hn
        have := List.nodup_cons.1 h2
        exact ⟨this.2, fun e => by cases e; exact this.1⟩
    cases i with
    | zero =>
      simp only [List.getElem?_cons_zero, Option.some.injEq] at hi
      cases j with
      | zero => rfl
      | succ j => exact (hn'.2 hi (hmem (by simpa using hj))).elim
    | succ i =>
      cases j with
      | zero =>
        simp only [List.getElem?_cons_zero, Option.some.injEq] at hj
        exact (hn'.2 hj (hmem (by simpa using hi))).elim
      | succ j => exact congrArg (· + 1) (some_idx (l := l) hn'.1 (by simpa using hi) (by simpa using hj))
theorem All2.ofGet {α β : Type} {R : α → β → Prop} : ∀ {as : List α} {bs : List β}, as.length = bs.length → (∀ (i : Nat) a b, as[i]? = some a → bs[i]? = some b → R a b) → All2 R as bs
  | [], [], _, _ => .nil
  | [], _ :: _, h, _ => by simp at h
  | _ :: _, [], h, _ => by simp at h
  | a :: as, b :: bs, h, hr => .cons (hr 0 a b rfl rfl) (All2.ofGet (by simpa using h) fun i a b h1 h2 => hr (i + 1) a b (by simpa using h1) (by simpa using h2))

theorem fun_sound' {E : Env} (hE : EnvOK E) (hN : InlsOK E) {f : FuncId} {fn : Func} {c : Code} {ts : List ResAt} (S : Summ) (hf : E.P.funcs[f]? = some fn) (hb : fn.body = some c) (hts : resTmps fn = ts)
    (hnt : S.par.length ≤ fn.ntmps) (hnio : E.nio = ioCount S.par) (hpl : plainS S = true) (hl : loopsAll E (loopList c 0)) (h : ∀ x, S.pre x → awp E c 0 (fin E.P S x ts E.nio) (initSt S.par x fn.ntmps)) : SumOK E.P f S := by
  intro x args ls w ok okO hpre hps hap hdis
  obtain ⟨hla, hlsl⟩ := PsRel.length _ hps
  have hlio := ioLocs_length S.par ls hlsl
  let io : List (Nat × Sub) := (List.range (ioCount S.par)).map fun r => (r, (ioLocs S.par ls).getD r Sub.none)
  have hio : ∀ r l, (r, l) ∈ io ↔ (ioLocs S.par ls)[r]? = some l := by
    intro r l
    simp only [io, List.mem_map, List.mem_range, Prod.mk.injEq]
    constructor
    · rintro ⟨r', h1, rfl, rfl⟩
      have : r' < (ioLocs S.par ls).length := by rw [hlio]; exact h1
      simp [this]
    · intro hr
      have : r < (ioLocs S.par ls).length := (List.getElem?_eq_some_iff.1 hr).1
      exact ⟨r, by rw [← hlio]; exact this, rfl, by simp [hr]⟩
  let cx : Cx := { P := E.P, B := w.heap.size, w0 := w, io := io, ro := fun b => ok b ∨ okO b, nt := fn.ntmps, gh := [] }
  have hown : ∀ b, cx.own b ↔ ∃ l ∈ ioLocs S.par ls, l.has b := by
    intro b
    constructor
    · rintro ⟨r, l, h1, h2⟩; exact ⟨l, List.mem_of_getElem? ((hio r l).1 h1), h2⟩
    · rintro ⟨l, h1, h2⟩
      obtain ⟨r, hr⟩ := List.mem_iff_getElem?.1 h1
      exact ⟨r, l, (hio r l).2 hr, h2⟩
  let φ : Phi := ⟨fun r => (ioLocs S.par ls).getD r Sub.none, fun b => cx.B ≤ b ∨ cx.own b ∨ cx.ro b⟩
  let st0 := initSt S.par x fn.ntmps
  have hφ : ∀ r l, (ioLocs S.par ls)[r]? = some l → φ r = l := fun r l hr => by
    show (ioLocs S.par ls).getD r _ = l
    simp [hr]
  have hregs : ∀ r g, look st0.regs r = some g → g.holes = [] ∧ ∃ l, (ioLocs S.par ls)[r]? = some l ∧ φ r = l ∧ g.at okO w l ∧ Good w l := by
    intro r g hg
    obtain ⟨_, h2, l, h3, h4, h5⟩ := init_reg S.par x args ls 0 r g hps hg
    exact ⟨h2, l, by simpa using h3, hφ r l (by simpa using h3), h4, h5⟩
  have hok : ∀ b, (ok b ∨ okO b) → okOf st0.regs φ b := by
    intro b hb2
    refine ⟨fun r g hg hbl => ?_, .inr (.inr hb2)⟩
    obtain ⟨_, l, h1, h2, _⟩ := hregs r g hg
    have := hdis l (List.mem_of_getElem? h1) b (by rw [← h2]; exact hbl)
    rcases hb2 with h3 | h3
    · exact this.1 h3
    · exact this.2 h3
  have htm := init_tm (ok := ok) (okO := okO) (okk := okOf st0.regs φ) (φ := φ) (w := w) (fun b o h1 h2 => ⟨hok b (.inl h1), h2⟩) S.par x args ls 0 st0.regs hps
      (fun k l hk => by rw [Nat.zero_add]; exact hφ k l hk) (fun _ _ => rfl)
  have hTl := initT_length S.par x 0
  let a0 : Act := { tmps := args.toArray ++ Array.replicate (fn.ntmps - args.toArray.size) undef, defers := [] }
  have R0 : RelF cx φ st0 a0 w := by
    refine ⟨?_, ?_, rfl, ?_, .nil, ⟨?_, ?_, ?_, ?_, ?_, ?_, ?_, ?_, ?_⟩, Kept.refl _ _ _, Nat.le_refl _, fun b => Iff.rfl⟩
    · simp [a0, hla, cx]; omega
    · simp [st0, initSt, hTl, cx]; omega
    · intro i av hi
      simp only [st0, initSt] at hi
      rw [List.getElem?_append] at hi
      split at hi
      · rename_i hlt
        have := (htm i av hi).1
        have hlt' : i < args.length := by rw [hla, ← hTl]; exact hlt
        have e : a0.tmps.getD i undef = args.getD i undef := by
          simp [a0, Array.getElem?_append, hlt']
        rw [e]; exact this
      · rw [List.getElem?_replicate] at hi
        split at hi
        · cases hi; trivial
        · cases hi
    · intro r g hg
      obtain ⟨_, l, h1, h2, h3, _⟩ := hregs r g hg
      rw [h2]
      exact Reg.at_mono (fun b o h4 h5 => ⟨hok b (.inr h4), h5⟩) (fun _ _ => rfl) (fun _ _ _ _ => rfl) h3
    · intro r g hg
      obtain ⟨_, l, h1, h2, h3, h4⟩ := hregs r g hg
      rw [h2]; exact h4.inj
    · intro r r' g g' b h1 h2 h3 h4
      obtain ⟨_, l, e1, e2, _⟩ := hregs r g h1
      obtain ⟨_, l', e3, e4, _⟩ := hregs r' g' h2
      exact hap r r' l l' b e1 e3 (e2 ▸ h3) (e4 ▸ h4)
    · intro r g b hg hb
      obtain ⟨_, l, h1, h2, h3, h4⟩ := hregs r g hg
      rw [h2] at hb; exact h4.al b hb
    · intro r g b h1 h2
      obtain ⟨_, l, e1, e2, _⟩ := hregs r g h1
      exact .inr ((hown b).2 ⟨l, List.mem_of_getElem? e1, by rw [← e2]; exact h2⟩)
    · intro r l h1 _
      rw [hφ r l ((hio r l).1 h1)]
      exact .rfl' _
    · intro r g hg p m hpm
      rw [(hregs r g hg).1] at hpm; cases hpm
    · intro r g hg q hq
      obtain ⟨_, l, h1, h2, h3, h4⟩ := hregs r g hg
      rw [h2, h4.hd] at hq; cases hq
    · intro r g hg p m hpm
      rw [(hregs r g hg).1] at hpm; cases hpm
  have hF0 : FreshFrom cx st0 st0.next := by
    intro m hm
    have hm' : ioCount S.par ≤ m := hm
    refine ⟨⟨?_, ?_, ?_, ?_⟩, ?_⟩
    · cases hl : look st0.regs m with
      | none => rfl
      | some g => have := initR_lt _ _ _ _ _ hl; omega
    · intro av hav hmen
      simp only [st0, initSt, List.mem_append, List.mem_replicate] at hav
      rcases hav with hav | ⟨_, rfl⟩
      · obtain ⟨i, hi⟩ := List.mem_iff_getElem?.1 hav
        have := AV.ltB_spec (htm i av hi).2 hmen
        omega
      · exact hmen
    · intro av hav; cases hav
    · intro r g hg p hp
      rw [(hregs r g hg).1] at hp; cases hp
    · intro l hl
      have := (List.getElem?_eq_some_iff.1 ((hio m l).1 hl)).1
      omega
  refine calls_of_wp hf hb ?_
  refine awp_sound hE hN (cx := cx) rfl (fun r l hm => by
    rw [hnio, ← hlio]
    exact (List.getElem?_eq_some_iff.1 ((hio r l).1 hm)).1) c 0 _ st0 a0 w _ hl (h x hpre) ⟨⟨φ, R0⟩, hF0⟩ ?_
  intro e st1 a' w' hfin RN
  obtain ⟨⟨φ1, R1⟩, _⟩ := RN
  have main : finS E.P S x ts E.nio { st1 with regs := closeAll 64 (List.range E.nio) st1.regs } → bodyPost E.P fn (fun e w' => ∃ (vs : List Value) (rl ls' : List Sub), e = .returned (retVal vs) ∧ After S x ls w ok okO vs rl ls' w') .normal a' w' := by
    obtain ⟨φ', R⟩ := closeAll_sound 64 (List.range E.nio) R1
    generalize ({ st1 with regs := closeAll 64 (List.range E.nio) st1.regs } : St) = st' at R ⊢
    have L := R.lay
    intro hm
    unfold finS at hm
    split at hm
    · rename_i vc0 vs hvs
      split at hm
      · rename_i vc ids ds vc2 hres hioe
        split at hm
        · rename_i hc
          obtain ⟨hvc, _⟩ := andAll_spec hm
          simp only [endOK, Bool.and_eq_true, List.all_eq_true, decide_eq_true_eq, Bool.not_eq_true', List.contains_eq_mem, decide_eq_false_iff_not] at hc
          obtain ⟨⟨c1, c2⟩, c3⟩ := hc
          have hnod := nodupB_spec c1
          obtain ⟨Vs, hVs, hall⟩ := getS_sound R ts vs vc0 hvs (fun p hp => hvc p (by simp [hp]))
          refine ⟨R.df, _, run_results (hts ▸ hVs), ?_⟩
          have hpl' : S.esc = true ∨ (S.res.all RK.ro = true ∧ S.par.all (fun p => !p.io || p.ro) = true) := by
            unfold plainS at hpl
            simp only [Bool.or_eq_true, Bool.and_eq_true] at hpl
            exact hpl
          -- what is handed out, and what was handed in, lives
          obtain ⟨_, hlvI⟩ := ioEnd_sound R true (tgt := okOf st'.regs φ') (fun _ _ h => h) S.par (S.fn x).2 0 vc2 hioe (fun p hp => hvc p (by simp [hp])) (.inl rfl)
          obtain ⟨_, hlvR⟩ := resEnd_sound R ds true (tgt := okOf (dels st'.regs ds) φ') (fun _ _ h => h) S.res (S.fn x).1 vs _ vc ids ds hres (fun p hp => hvc p (by simp [hp])) (fun _ h => h) (.inl rfl) hall
          let gids : List (Option Nat) := ids ++ (List.range' 0 (ioCount S.par)).map some
          have hG : ids.map (locO φ') ++ (List.range' 0 (ioCount S.par)).map φ' = gids.map (locO φ') := by
            simp only [gids, List.map_append, List.map_map]
            rfl
          have hidm : ∀ r, some r ∈ ids → r ∈ ids.filterMap id := fun r hr => List.mem_filterMap.2 ⟨some r, hr, rfl⟩
          have hglv : ∀ r, some r ∈ gids → (∃ g, look st'.regs r = some g ∧ g.holes = []) ∧ r ∉ ds := by
            intro r hr
            rcases List.mem_append.1 hr with hr | hr
            · exact ⟨hlvR r hr, (c2 r (hidm r hr)).2⟩
            · simp only [List.mem_map, List.mem_range'_1, Option.some.injEq, exists_eq_right] at hr
              refine ⟨hlvI r (by omega) (by omega), fun hd => ?_⟩
              have := c3 r hd
              omega
          have hgnod : (gids.filterMap id).Nodup := by
            simp only [gids, List.filterMap_append, List.filterMap_map]
            rw [show (id ∘ some : Nat → Option Nat) = some from rfl, List.filterMap_some]
            refine List.nodup_append.2 ⟨hnod, List.nodup_range', fun r hr s hs e => ?_⟩
            subst e
            have h1 := (c2 r hr).1
            simp only [List.mem_range'_1] at hs
            omega
          have hgood : ∀ l ∈ gids.map (locO φ'), Good w' l := by
            intro l hl
            obtain ⟨i, hi, rfl⟩ := List.mem_map.1 hl
            cases i with
            | none => exact ⟨mkSub_inj _ _ _, fun q => mkSub_hd _ _ _ q, fun b hb => by have := mkSub_has.1 hb; cases this⟩
            | some r =>
              obtain ⟨⟨g, hg, hh⟩, _⟩ := hglv r hi
              refine ⟨L.inj r g hg, fun q => ?_, fun b hb => L.al r g b hg hb⟩
              cases hx : ((φ' r) q).hd with
              | true => exact hx
              | false =>
                obtain ⟨p, m, h1, _⟩ := L.told r g hg q hx
                rw [hh] at h1; cases h1
          have htgt : ∀ b, φ'.base b → (∀ l ∈ gids.map (locO φ'), ¬ l.has b) → ∀ esc' : Bool, esc' = true → okAfter esc' ok okO w (ioLocs S.par ls) (gids.map (locO φ')) b := by
            intro b hb hno esc' he
            refine ⟨hno, ?_⟩
            rcases Nat.lt_or_ge b w.heap.size with h1 | h1
            · rcases (R.bs b).1 hb with h2 | h2 | h2 | h2
              · exact .inl h2
              · exact .inr (.inl ((hown b).1 h2))
              · exact .inr (.inr (.inl ⟨he, h2, h1⟩))
              · exact .inr (.inr (.inr ⟨h2, h1⟩))
            · exact .inl h1
          have hnoG : ∀ b, okOf (dels st'.regs ds) φ' b → ∀ l ∈ gids.map (locO φ'), ¬ l.has b := by
            intro b hb l hl hlb
            obtain ⟨i, hi, rfl⟩ := List.mem_map.1 hl
            obtain ⟨r, rfl, h2⟩ := locO_has hlb
            obtain ⟨⟨g, hg, _⟩, hnd⟩ := hglv r hi
            exact hb.1 r g (by rw [look_dels, if_neg hnd]; exact hg) h2
          obtain ⟨r1, _⟩ := resEnd_sound R ds S.esc (tgt := okAfter S.esc ok okO w (ioLocs S.par ls) (gids.map (locO φ'))) (fun he b hb => htgt b hb.2 (hnoG b hb) S.esc he) S.res (S.fn x).1 vs _ vc ids ds hres (fun p hp => hvc p (by simp [hp])) (fun _ h => h) (hpl'.imp id And.left) hall
          obtain ⟨o1, _⟩ := ioEnd_sound R S.esc (tgt := okAfter S.esc ok okO w (ioLocs S.par ls) (gids.map (locO φ'))) (fun he b hb => htgt b hb.2 (hnoG b (okOf_dels ds hb)) S.esc he) S.par (S.fn x).2 0 vc2 hioe (fun p hp => hvc p (by simp [hp])) (hpl'.imp id And.right)
          refine ⟨_, ids.map (locO φ'), (List.range' 0 (ioCount S.par)).map φ', rfl, ?_, ?_, ?_, ?_, ?_, ?_, ?_, ?_⟩
          · have hk := R.kp
            exact ⟨hk.os, hk.tape, hk.output, hk.size, fun k h1 h2 => hk.block k h1 (fun h3 => h2 ((hown k).1 h3))⟩
          · rw [hG]; exact r1
          · rw [hG]; exact o1
          · refine All2.ofGet (by simp [hlio]) fun i l l' h1 h2 => ?_
            have hi : i < ioCount S.par := by rw [← hlio]; exact (List.getElem?_eq_some_iff.1 h1).1
            rw [List.getElem?_map, List.getElem?_range' hi] at h2
            simp only [Option.map_some, Option.some.injEq] at h2
            subst h2
            obtain ⟨g, hg, _⟩ := hlvI i (by omega) (by omega)
            have := L.io i l ((hio i l).2 h1) (by rw [hg]; rfl)
            simpa using this.symm
          · exact lenEnd_spec _ _ _ fun p hp => hvc p (by simp [hp])
          · rw [hG]
            intro i j l l' b hi hj h1 h2
            rw [List.getElem?_map] at hi hj
            obtain ⟨i0, hi0, rfl⟩ := Option.map_eq_some_iff.1 hi
            obtain ⟨j0, hj0, rfl⟩ := Option.map_eq_some_iff.1 hj
            obtain ⟨r, rfl, k1⟩ := locO_has h1
            obtain ⟨s, rfl, k2⟩ := locO_has h2
            obtain ⟨⟨g, hg, _⟩, _⟩ := hglv r (List.mem_of_getElem? hi0)
            obtain ⟨⟨g', hg', _⟩, _⟩ := hglv s (List.mem_of_getElem? hj0)
            have := L.sep r s g g' b hg hg' k1 k2
            subst this
            exact some_idx hgnod hi0 hj0
          · rw [hG]; exact hgood
          · rw [hG]
            intro l hl b hb
            obtain ⟨i, hi, rfl⟩ := List.mem_map.1 hl
            obtain ⟨r, rfl, k1⟩ := locO_has hb
            obtain ⟨⟨g, hg, _⟩, _⟩ := hglv r hi
            rcases L.fr r g b hg k1 with h3 | h3
            · exact .inl h3
            · exact .inr ((hown b).1 h3)
        · exact hm.elim
      · exact hm.elim
    · exact hm.elim
  cases e with
  | normal => exact main hfin
  | exit id => exact hfin.elim
  | ret => exact main hfin

theorem fun_sound {E : Env} (hE : EnvOK E) {f : FuncId} {fn : Func} {c : Code} {ts : List ResAt} (S : Summ) (hf : E.P.funcs[f]? = some fn) (hb : fn.body = some c) (hts : resTmps fn = ts)
    (hnt : S.par.length ≤ fn.ntmps) (hnio : E.nio = ioCount S.par) (hpl : plainS S = true) (hl : loopsAll E (loopList c 0)) (h : ∀ x, S.pre x → awp E c 0 (fin E.P S x ts E.nio) (initSt S.par x fn.ntmps)) (hN : E.inl = [] := by rfl) : SumOK E.P f S :=
  fun_sound' hE (InlsOK.nil hN) S hf hb hts hnt hnio hpl hl h

end Go.Lift
/- Calls that are run through in place. -/
namespace Go.Lift
open Go

inductive BadRet (P : Program) (st : St) (ts : List ResAt) : Prop
def inlP (E : Env) (c : Code) (nt : Nat) (ts : List ResAt) : InlP := fun args st K =>
  if (Nat.ble args.length nt && args.all (AV.ltB st.next)) = true then
    forceSt ⟨args ++ List.replicate (nt - args.length) (.s .undef), st.regs, st.next, st.tmps ++ st.gh⟩ fun st0 =>
      awp E c 0 (fun e st' => match e with
        | .exit _ => False
        | _ => match getS E.P st'.regs st'.tmps ts with
          | some (vc, vs) => if (retAV vs).ltB st'.next = true then andAll vc (forceAV (retAV vs) fun av => K av ⟨st'.gh.take st.tmps.length, st'.regs, st'.next, st'.gh.drop st.tmps.length⟩) else False
          | none => BadRet E.P st' ts) st0
  else False
def inlPf (E : Env) (f : FuncId) : InlP := fun args st K =>
  match E.P.funcs[f]? with
  | some fn => match fn.body with
    | some c => if (loopList c 0).isEmpty = true then inlP E c fn.ntmps (resTmps fn) args st K else False
    | none => False
  | none => False
def inlOf (E : Env) (l : List FuncId) : List (FuncId × InlP) := l.map fun f => (f, inlPf E f)
def setInl (E : Env) (x : List (FuncId × InlP)) : Env := ⟨E.P, E.sum, E.nio, E.head, E.after, E.leave, E.loops, E.vw, E.n0, E.on, E.off, E.nb, x, E.gen⟩
def withInl : Nat → List FuncId → Env → Env
  | 0, _, E => E
  | k + 1, l, E => setInl E (inlOf (withInl k l E) l)

theorem All2.splitB {α β : Type} {R : α → β → Prop} : ∀ {bs bs' : List β} {as : List α}, All2 R as (bs ++ bs') → All2 R (as.take bs.length) bs ∧ All2 R (as.drop bs.length) bs'
  | [], bs', as, h => ⟨.nil, h⟩
  | b :: bs, bs', as, h => by
    cases h with
    | cons h1 h2 =>
      obtain ⟨k1, k2⟩ := All2.splitB (bs := bs) h2
      exact ⟨.cons h1 k1, k2⟩
theorem All2.lenB {α β : Type} {R : α → β → Prop} {as : List α} {bs : List β} (h : All2 R as bs) : as.length = bs.length := by
  induction h with
  | nil => rfl
  | cons _ _ ih => simp [ih]
theorem All2.idxB {α β : Type} {R : α → β → Prop} {as : List α} {bs : List β} (h : All2 R as bs) : ∀ (i : Nat) (x : α), as[i]? = some x → ∃ y, bs[i]? = some y ∧ R x y := by
  induction h with
  | nil => intro i x h; simp at h
  | cons h1 _ ih =>
    intro i x hx
    cases i with
    | zero => simp only [List.getElem?_cons_zero, Option.some.injEq] at hx; subst hx; exact ⟨_, rfl, h1⟩
    | succ i => simpa using ih i x (by simpa using hx)
theorem All2.ofIdxB {α β : Type} {R : α → β → Prop} : ∀ {as : List α} {bs : List β}, as.length = bs.length → (∀ (i : Nat) (x : α) (y : β), as[i]? = some x → bs[i]? = some y → R x y) → All2 R as bs
  | [], [], _, _ => .nil
  | [], _ :: _, h, _ => by simp at h
  | _ :: _, [], h, _ => by simp at h
  | a :: as, b :: bs, h, k => .cons (k 0 a b rfl rfl) (All2.ofIdxB (by simpa using h) fun i x y h1 h2 => k (i + 1) x y (by simpa using h1) (by simpa using h2))

theorem inlP_ok {E : Env} (hE : EnvOK E) (hN : InlsOK E) {f : FuncId} {fn : Func} {c : Code} (hf : E.P.funcs[f]? = some fn) (hb : fn.body = some c) (hl : loopList c 0 = []) : InlOK E.P E.nio f (inlP E c fn.ntmps (resTmps fn)) := by
  intro cx hP hio st a w φ args Args K R hF hall hH
  unfold inlP at hH
  split at hH
  case isFalse => exact hH.elim
  rename_i hc
  simp only [Bool.and_eq_true, Nat.ble_eq, List.all_eq_true] at hc
  obtain ⟨hlen, hlt⟩ := hc
  simp only [forceSt_eq] at hH
  have hla := hall.lenB
  let cx' : Cx := { cx with nt := fn.ntmps, gh := a.tmps.toList ++ cx.gh }
  let st0 : St := ⟨args ++ List.replicate (fn.ntmps - args.length) (.s .undef), st.regs, st.next, st.tmps ++ st.gh⟩
  let a0 : Act := { tmps := Args.toArray ++ Array.replicate (fn.ntmps - Args.toArray.size) undef, defers := [] }
  have L := R.lay
  have hgh : All2 (AVRel st.regs φ (okOf st.regs φ) w) (st.tmps ++ st.gh) (a.tmps.toList ++ cx.gh) := by
    refine All2.append (All2.ofIdxB (by rw [R.len]; simpa using R.size.symm) fun i x y h1 h2 => ?_) R.gh
    have := R.tm i x h1
    have e : a.tmps.getD i undef = y := by
      have h3 : a.tmps[i]? = some y := by simpa using h2
      simp [h3]
    rw [e] at this; exact this
  have R0 : RelF cx' φ st0 a0 w := by
    refine ⟨?_, ?_, rfl, ?_, hgh, ⟨L.rg, L.inj, L.sep, L.al, L.fr, L.io, L.hl, L.told, L.ht⟩, R.kp, R.hB, R.bs⟩
    · simp [a0, cx']; omega
    · simp [st0, cx']; omega
    · intro i av hi
      simp only [st0] at hi
      rw [List.getElem?_append] at hi
      split at hi
      · rename_i hlt'
        obtain ⟨y, h1, h2⟩ := hall.idxB i av hi
        have hi' : i < Args.length := by omega
        have e : a0.tmps.getD i undef = y := by
          have h3 : Args[i] = y := by
            rw [List.getElem?_eq_getElem hi'] at h1; exact Option.some.inj h1
          simp [a0, Array.getElem?_append, hi', h3]
        rw [e]; exact h2
      · rw [List.getElem?_replicate] at hi
        split at hi
        · cases hi; trivial
        · cases hi
  have hF0 : FreshFrom cx' st0 st0.next := by
    intro m hm
    obtain ⟨⟨h1, h2, h4, h5⟩, h3⟩ := hF m hm
    refine ⟨⟨h1, fun av hav hmen => ?_, fun av hav hmen => ?_, h5⟩, h3⟩
    · simp only [st0, List.mem_append, List.mem_replicate] at hav
      rcases hav with hav | ⟨_, rfl⟩
      · have := AV.ltB_spec (hlt av hav) hmen
        have : st.next ≤ m := hm
        omega
      · exact hmen
    · simp only [st0, List.mem_append] at hav
      rcases hav with hav | hav
      · exact h2 av hav hmen
      · exact h4 av hav hmen
  refine calls_of_wp (by rw [hP]; exact hf) hb ?_
  have hend : ∀ st' a' w', RelN cx' st' a' w' → (match getS E.P st'.regs st'.tmps (resTmps fn) with
      | some (vc, vs) => if (retAV vs).ltB st'.next = true then andAll vc (forceAV (retAV vs) fun av => K av ⟨st'.gh.take st.tmps.length, st'.regs, st'.next, st'.gh.drop st.tmps.length⟩) else False
      | none => BadRet E.P st' (resTmps fn)) → bodyPost cx.P fn (fun e' w' => ∃ V av st' φ', e' = .returned V ∧ K av st' ∧ RelF cx φ' st' a w' ∧ AVRel st'.regs φ' (okOf st'.regs φ') w' av V ∧ FreshFrom cx st' st'.next ∧ av.ltB st'.next = true) .normal a' w' := by
    intro st' a' w' RN hm
    obtain ⟨⟨φ1, R1⟩, hF1⟩ := RN
    split at hm
    · rename_i vc vs hvs
      split at hm
      · rename_i hlt2
        obtain ⟨hvc, hK⟩ := andAll_spec hm
        rw [forceAV_eq] at hK
        obtain ⟨Vs, hVs, hres⟩ := getS_sound R1 (resTmps fn) vs vc (by rw [show cx'.P = E.P from hP]; exact hvs) hvc
        refine ⟨R1.df, _, run_results hVs, ?_⟩
        have L1 := R1.lay
        have hsz : a.tmps.toList.length = st.tmps.length := by rw [R.len]; simpa using R.size
        obtain ⟨g1, g2⟩ := All2.splitB (bs := a.tmps.toList) R1.gh
        rw [hsz] at g1 g2
        refine ⟨_, _, _, φ1, rfl, hK, ⟨R.size, ?_, R.df, ?_, g2, ⟨L1.rg, L1.inj, L1.sep, L1.al, L1.fr, L1.io, L1.hl, L1.told, L1.ht⟩, R1.kp, R1.hB, R1.bs⟩, retAV_sound hres, ?_, hlt2⟩
        · have := g1.lenB
          show (List.take st.tmps.length st'.gh).length = cx.nt
          rw [this, hsz, R.len]
        · intro i x hx
          obtain ⟨y, h1, h2⟩ := g1.idxB i x hx
          have e : a.tmps.getD i undef = y := by
            have h3 : a.tmps[i]? = some y := by simpa using h1
            simp [h3]
          rw [e]; exact h2
        · intro m hm2
          obtain ⟨⟨h1, h2, h4, h5⟩, h3⟩ := hF1 m hm2
          exact ⟨⟨h1, fun av hav hmen => h4 av (List.mem_of_mem_take hav) hmen, fun av hav hmen => h4 av (List.mem_of_mem_drop hav) hmen, h5⟩, h3⟩
      · exact hm.elim
    · exact nomatch hm
  refine awp_sound hE hN (cx := cx') hP hio c 0 _ st0 a0 w _ (by rw [hl]; trivial) hH ⟨⟨φ, R0⟩, hF0⟩ ?_
  intro e st1 a' w' hfin RN
  cases e with
  | normal => exact hend st1 a' w' RN hfin
  | exit id => exact hfin.elim
  | ret => exact hend st1 a' w' RN hfin

theorem inlPf_ok {E : Env} (hE : EnvOK E) (hN : InlsOK E) (f : FuncId) : InlOK E.P E.nio f (inlPf E f) := by
  intro cx hP hio st a w φ args Args K R hF hall hH
  unfold inlPf at hH
  split at hH
  · rename_i fn hf
    split at hH
    · rename_i c hb
      split at hH
      · rename_i hl
        exact inlP_ok hE hN hf hb (by simpa using hl) cx hP hio st a w φ args Args K R hF hall hH
      · exact hH.elim
    · exact hH.elim
  · exact hH.elim
theorem inlAt_of {E : Env} : ∀ {l : List FuncId} {f : FuncId} {H : InlP}, inlAt (inlOf E l) f = some H → H = inlPf E f
  | [], f, H, h => by cases h
  | g :: l, f, H, h => by
    simp only [inlOf, List.map_cons, inlAt] at h
    split at h
    · rename_i e
      cases h
      rw [Nat.eq_of_beq_eq_true e]
    · exact inlAt_of h
theorem withInl_ok {l : List FuncId} : ∀ (k : Nat) {E : Env}, EnvOK E → InlsOK E → EnvOK (withInl k l E) ∧ InlsOK (withInl k l E) ∧ (withInl k l E).P = E.P ∧ (withInl k l E).nio = E.nio
  | 0, E, hE, hN => ⟨hE, hN, rfl, rfl⟩
  | k + 1, E, hE, hN => by
    obtain ⟨h1, h2, h3, h4⟩ := withInl_ok (l := l) k hE hN
    refine ⟨hE, fun f H hf => ?_, rfl, rfl⟩
    rw [inlAt_of hf]
    have := inlPf_ok h1 h2 f
    rw [h3, h4] at this
    exact this

end Go.Lift
/- Small words for the functions' texts. -/
namespace Go.Lift
open Go
noncomputable def bodyOf (f : Func) : Code := f.body.getD .skip
noncomputable def loopAt (c : Code) (b : Nat) : Code := match (loopList c 0).find? (fun p => p.1 == b) with
  | some p => p.2
  | none => .skip
theorem body_some {f : Func} (h : f.body.isSome = true) : f.body = some (bodyOf f) := by
  unfold bodyOf
  cases hb : f.body with
  | none => rw [hb] at h; cases h
  | some c => rfl
def sumsOf : List (Nat × Summ) → Nat → Option Summ
  | [], _ => none
  | (k, S) :: l, f => if k = f then some S else sumsOf l f
theorem sumsOf_ok {P : Program} : ∀ {l : List (Nat × Summ)}, (∀ p ∈ l, SumOK P p.1 p.2) → ∀ f S, sumsOf l f = some S → SumOK P f S
  | [], _, _, _, h => nomatch h
  | (k, S0) :: l, hl, f, S, h => by
    unfold sumsOf at h
    split at h
    · rename_i e
      cases h
      subst e
      exact hl (k, S0) (List.mem_cons_self ..)
    · exact sumsOf_ok (fun p hp => hl p (List.mem_cons_of_mem _ hp)) f S h
def u (n : Nat) : List Slot := List.replicate n .u
def un (n : Nat) : List AV := List.replicate n (.s .undef)
theorem condP_iff {c : Bool} {p q : Prop} : condP c p q ↔ (c = true → p) ∧ (c = false → q) := ⟨fun h => ⟨h.t, h.f⟩, fun h => ⟨h.1, h.2⟩⟩
theorem condP_t {c : Bool} {p q : Prop} (h : c = true) : condP c p q ↔ p := ⟨fun k => k.t h, fun k => ⟨fun _ => k, fun e => by rw [h] at e; cases e⟩⟩
theorem condP_f {c : Bool} {p q : Prop} (h : c = false) : condP c p q ↔ q := ⟨fun k => k.f h, fun k => ⟨fun e => (by rw [h] at e; cases e), fun _ => k⟩⟩
theorem drop_cons {α : Type} (l : List α) (i : Nat) (d : α) (h : i < l.length) : l.drop i = l.getD i d :: l.drop (i + 1) := by
  rw [List.drop_eq_getElem_cons h, List.getD_eq_getElem?_getD, List.getElem?_eq_getElem h]; rfl
end Go.Lift
/- What a law's arguments read as. -/
namespace Go.Lift
open Go Go.ChangeShapes Go.WideShapes Go.RowKit
/-- So many bytes an element takes at least. -/
def Ty.lb : Ty → Nat
  | .int k => if k.bits = 64 then 8 else 1
  | .bool => 1
  | .str => 16
  | .ro _ => 24
  | .pair a b => a.lb + b.lb
  | .arr n t => n * t.lb
  | _ => 0
/-- In the bounds that data have. -/
def Ty.wfd : (t : Ty) → t.den → Prop
  | .int k, x => (Lit.int k x).wf = true
  | .bool, _ => True
  | .unit, _ => True
  | .str, s => (ByteArray.size s : Int) ≤ 140737488351232
  | .ro t, xs => (List.length xs : Int) ≤ 140737488351232 ∧ (∀ x ∈ (xs : List t.den), t.wfd x) ∧ (List.length xs : Int) * t.lb ≤ 140737488351232
  | .pair a b, x => a.wfd x.1 ∧ b.wfd x.2
  | .arr n t, xs => List.length xs = n ∧ ∀ x ∈ (xs : List t.den), t.wfd x
  | .own _, _ => True
  | .ptr _, _ => True
  | .map _ _, _ => True
/-- Is a type of the program laid as its shape says? -/
def layF (f : TypeId → Bool) (ty : TypeId → Option Ty) (P : Program) : Nat → List Field → Bool
  | _, [] => true
  | off, x :: xs => match ty x.type with
    | some τ => decide (x.offset = off) && decide (P.cellsOf x.type = τ.sz) && f x.type && layF f ty P (off + τ.sz) xs
    | none => false
def layB (P : Program) : Nat → TypeId → Bool
  | 0, _ => false
  | n + 1, t => match P.underlying t with
    | some (.int _) => true
    | some .bool => true
    | some .string => true
    | some (.slice e) => match tyRo P n e with
      | some τ => layB P n e && decide (P.cellsOf e = τ.sz) && decide (1 ≤ τ.sz) && decide (1 ≤ P.bytesOf e) && decide (τ.lb ≤ P.bytesOf e)
      | none => false
    | some (.array m e) => match tyRo P n e with
      | some τ => layB P n e && decide (P.cellsOf e = τ.sz) && decide (P.cellsOf t = m * τ.sz)
      | none => false
    | some (.struct fs) => match tyFieldsRo (tyRo P n) fs.toList with
      | some τ => layF (layB P n) (tyRo P n) P 0 fs.toList && decide (P.cellsOf t = τ.sz)
      | none => false
    | _ => false
theorem cells?_get {w : World} {base : Nat} {a : Addr} {n : Nat} {cs : List Value} (h : w.cells? base a n = some cs) : cs.length = n ∧ ∀ j, j < n → w.cell? (a.add j) = cs[j]? := by
  unfold World.cells? at h
  split at h
  · have hl := mapM_some_length h
    rw [List.length_range] at hl
    refine ⟨hl, fun j hj => ?_⟩
    exact mapM_some_get h j j (by simp [hj])
  · cases h
theorem addr_add {b o k : Nat} : (⟨b, o, none⟩ : Addr).add k = ⟨b, o + k, none⟩ := by
  unfold Addr.add
  split
  · rename_i h; rw [h]; rfl
  · rfl
theorem weights_all {H : Type} {P : Program} {e : TypeId} : ∀ {l : List (DataW H)} {B : Nat}, (∀ m ∈ DataW.weightsAll P e l, m ≤ B) → ∀ d ∈ l, ∀ m ∈ d.weights P e, m ≤ B
  | [], _, _, d, hd => by simp at hd
  | d0 :: l, B, h, d, hd => by
    simp only [DataW.weightsAll, List.mem_append] at h
    rcases List.mem_cons.1 hd with rfl | hd
    · exact fun m hm => h m (.inl hm)
    · exact weights_all (fun m hm => h m (.inr hm)) d hd
theorem choose_list {α : Type} {Q : Nat → α → Prop} : ∀ (n : Nat), (∀ i, i < n → ∃ x, Q i x) → ∃ xs : List α, xs.length = n ∧ ∀ i (h : i < xs.length), Q i xs[i]
  | 0, _ => ⟨[], rfl, fun i h => by simp at h⟩
  | n + 1, h => by
    obtain ⟨xs, hl, hx⟩ := choose_list n fun i hi => h i (by omega)
    obtain ⟨x, hq⟩ := h n (by omega)
    refine ⟨xs ++ [x], by simp [hl], fun i hi => ?_⟩
    by_cases hi2 : i < xs.length
    · rw [List.getElem_append_left hi2]; exact hx i hi2
    · have : i = n := by simp at hi; omega
      subst this
      rw [List.getElem_append_right (by omega)]
      simpa [hl] using hq
section
variable {H : Type} {enc : TypeId × Value → H} {P : Program} {W : World} {base : Nat} {spare : Nat → Bool} {held : Bool}
abbrev okW (W : World) (b : Nat) : Prop := b < W.heap.size
def Reads (P : Program) (enc : TypeId × Value → H) (W : World) (base : Nat) (spare : Nat → Bool) (held : Bool) (t : TypeId) (τ : Ty) : Prop :=
  ∀ fuel cs d ps, DataW.trod enc P W base spare held fuel t cs = some (d, ps) → (∀ m ∈ d.weights P t, m ≤ reachBytes) →
    ∃ x : τ.den, τ.rd (okW W) W Sub.none x (fun j => cs[j]?) ∧ cs.length = τ.sz ∧ τ.wfd x
theorem drop_take_get {cs : List Value} {o s j : Nat} (h : j < s) : ((cs.drop o).take s)[j]? = cs[o + j]? := by
  rw [List.getElem?_take, if_pos h, List.getElem?_drop]
theorem fields_read {n : Nat} (ih : ∀ t τ, tyRo P n t = some τ → layB P n t = true → Reads P enc W base spare held t τ) (cs : List Value) (m : Nat) :
    ∀ (fs : List Field) (τ : Ty) (off : Nat) (xs : List (DataW H × List MemPlace)), tyFieldsRo (tyRo P n) fs = some τ → layF (layB P n) (tyRo P n) P off fs = true → xs.length = fs.length →
    (∀ (i : Nat) f, fs[i]? = some f → DataW.trod enc P W base spare held m f.type ((cs.drop f.offset).take (P.cellsOf f.type)) = xs[i]?) →
    (∀ w ∈ DataW.weightsEach P (fs.map (·.type)) (xs.map (·.1)), w ≤ reachBytes) →
    ∃ x : τ.den, τ.rd (okW W) W Sub.none x (fun j => cs[off + j]?) ∧ τ.wfd x
  | [], τ, off, xs, ht, _, _, _, _ => by
    simp only [tyFieldsRo, Option.some.injEq] at ht
    subst ht
    exact ⟨(), trivial, trivial⟩
  | f :: fs, τ, off, xs, ht, hl, hlen, hx, hw => by
    simp only [tyFieldsRo] at ht
    split at ht
    · rename_i a b ha hb
      cases ht
      unfold layF at hl
      rw [ha] at hl
      simp only [Bool.and_eq_true, decide_eq_true_eq] at hl
      obtain ⟨⟨⟨h1, h2⟩, h3⟩, h4⟩ := hl
      cases xs with
      | nil => simp at hlen
      | cons y ys =>
        have hy := hx 0 f rfl
        simp only [List.getElem?_cons_zero] at hy
        obtain ⟨d, ps⟩ := y
        simp only [List.map_cons, DataW.weightsEach, List.mem_append] at hw
        obtain ⟨u, u1, u2, u3⟩ := ih _ _ ha h3 _ _ _ _ hy fun w hm => hw w (.inl hm)
        obtain ⟨v, v1, v3⟩ := fields_read ih cs m fs b (off + a.sz) ys hb h4 (by simpa using hlen) (fun i f' hf => by simpa using hx (i + 1) f' (by simpa using hf)) (fun w hm => hw w (.inr hm))
        refine ⟨(u, v), ⟨?_, ?_⟩, u3, v3⟩
        · refine Ty.rd_congr _ _ _ _ _ (fun j hj => ?_) u1
          rw [h1, h2]
          exact drop_take_get hj
        · refine Ty.rd_congr _ _ _ _ _ (fun j hj => ?_) v1
          simp only [Nat.add_assoc]
    · cases ht
theorem reads : ∀ (n : Nat) (t : TypeId) (τ : Ty), tyRo P n t = some τ → layB P n t = true → Reads P enc W base spare held t τ
  | 0, t, τ, h, _ => by simp [tyRo] at h
  | n + 1, t, τ, h, hl => by
    intro fuel cs d ps htr hw
    have ih := reads n
    unfold tyRo at h
    unfold layB at hl
    cases hu : P.underlying t with
    | none => rw [hu] at h; cases h
    | some D =>
      rw [hu] at h hl
      cases D with
      | int k =>
        cases h
        obtain ⟨x, rfl, _, hwf⟩ := DataW.trod_int hu htr
        exact ⟨x, rfl, rfl, hwf⟩
      | bool =>
        cases h
        obtain ⟨x, rfl, _⟩ := DataW.trod_bool hu htr
        exact ⟨x, rfl, rfl, trivial⟩
      | string =>
        cases h
        obtain ⟨x, rfl, hd, _⟩ := DataW.trod_string hu htr
        refine ⟨x, rfl, rfl, ?_⟩
        cases hd
        have := hw x.data.toList.length (by simp [DataW.weights])
        have e : x.data.toList.length = x.size := by simp
        unfold reachBytes at this
        show (x.size : Int) ≤ _
        omega
      | slice e =>
        simp only [Option.map_eq_some_iff] at h
        obtain ⟨σ, hσ, rfl⟩ := h
        simp only [hσ, Bool.and_eq_true, decide_eq_true_eq] at hl
        obtain ⟨⟨⟨⟨l1, l2⟩, l3⟩, l4⟩, l5⟩ := hl
        rcases DataW.trod_slice hu htr with ⟨rfl, _⟩ | ⟨a, len, cap, elems, rest, m, rfl, rfl, hx, hb, h1, h2, h3, h4, _⟩
        · exact ⟨([] : List σ.den), ⟨none, 0, rfl, Nat.le_refl _, .inl rfl⟩, rfl, by simp, fun _ h => (by simp at h), by simp⟩
        · cases hx
          simp only [DataW.weights, hu, List.mem_cons, List.mem_append] at hw
          have hlen := hw _ (.inl rfl)
          have hwe : ∀ d ∈ elems.map (·.1), ∀ m ∈ d.weights P e, m ≤ reachBytes := weights_all fun m hm => hw m (.inr (.inl hm))
          have each : ∀ i, i < len → ∃ x : σ.den, (∃ ccs, W.cells? base (a.add (i * P.cellsOf e)) (P.cellsOf e) = some ccs ∧ σ.rd (okW W) W Sub.none x (fun j => ccs[j]?)) ∧ σ.wfd x := by
            intro i hi
            have hq := h4 i hi
            have hi2 : i < elems.length := by omega
            rw [List.getElem?_eq_getElem hi2, Option.bind_eq_some_iff] at hq
            obtain ⟨ccs, c1, c2⟩ := hq
            obtain ⟨x, x1, _, x3⟩ := ih _ _ hσ l1 _ _ _ _ (show _ = some (elems[i].1, elems[i].2) from c2) (hwe _ (List.mem_map.2 ⟨_, List.getElem_mem hi2, rfl⟩))
            exact ⟨x, ⟨ccs, c1, x1⟩, x3⟩
          obtain ⟨xs, hxl, hxs⟩ := choose_list len each
          refine ⟨xs, ⟨some a, cap, by rw [hxl]; rfl, by rw [hxl]; exact h1, ?_⟩, rfl, ?_, fun x hx => ?_, ?_⟩
          · by_cases h0 : xs = []
            · exact .inl h0
            · right
              have hpos : 0 < len := by rw [← hxl]; exact List.length_pos_iff.2 h0
              have hcell : ∃ v, W.cell? a = some v := by
                obtain ⟨⟨ccs, c1, _⟩, _⟩ := hxs 0 (by omega)
                rw [l2] at c1
                obtain ⟨g1, g2⟩ := cells?_get c1
                have := g2 0 (by omega)
                rw [List.getElem?_eq_getElem (by omega)] at this
                exact ⟨ccs[0]'(by omega), by simpa [Addr.add] using this⟩
              obtain ⟨v0, hv0⟩ := hcell
              obtain ⟨ab, ao, asp⟩ := a
              simp only [World.cell?] at hv0
              cases hh : W.heap[ab]? with
              | none => rw [hh] at hv0; cases hv0
              | some o =>
                cases o with
                | cells bs ty fz =>
                  rw [hh] at hv0
                  simp only at hv0
                  cases asp with
                  | some z => simp at hv0
                  | none =>
                    refine ⟨ab, ao, bs, ty, fz, rfl, ?_, hh, ?_⟩
                    · by_cases hlt : ab < W.heap.size
                      · exact hlt
                      · rw [Array.getElem?_eq_none (by omega)] at hh; cases hh
                    · intro i hi
                      obtain ⟨⟨ccs, c1, c3⟩, _⟩ := hxs i hi
                      rw [l2] at c1
                      obtain ⟨g1, g2⟩ := cells?_get c1
                      refine Ty.rd_congr _ _ _ _ _ (fun j hj => ?_) c3
                      have := g2 j hj
                      rw [addr_add, addr_add] at this
                      simp only [World.cell?, hh, Option.isSome_none, Bool.false_eq_true, if_false] at this
                      rw [← this]
                | _ => rw [hh] at hv0; cases hv0
          · simp only [List.length_map] at hlen
            have e1 : len ≤ (elems.length + rest.length) * P.bytesOf e := by
              rw [h3]
              exact Nat.le_trans (Nat.le_add_right _ _) (Nat.le_mul_of_pos_right _ l4)
            unfold reachBytes at hlen
            omega
          · obtain ⟨i, hi, rfl⟩ := List.mem_iff_getElem.1 hx
            exact (hxs i hi).2
          · simp only [List.length_map] at hlen
            have e1 : len * σ.lb ≤ (elems.length + rest.length) * P.bytesOf e := by
              rw [h3]
              exact Nat.mul_le_mul (Nat.le_add_right _ _) l5
            unfold reachBytes at hlen
            rw [hxl]
            have e2 : len * σ.lb ≤ 140737488351232 := by omega
            have e3 : ((len * σ.lb : Nat) : Int) ≤ ((140737488351232 : Nat) : Int) := Int.ofNat_le.2 e2
            rw [Int.natCast_mul] at e3
            exact e3
      | array m e =>
        simp only [Option.map_eq_some_iff] at h
        obtain ⟨σ, hσ, rfl⟩ := h
        simp only [hσ, Bool.and_eq_true, decide_eq_true_eq] at hl
        obtain ⟨⟨l1, l2⟩, l3⟩ := hl
        obtain ⟨xs, k, rfl, hx, h1, h2, h3⟩ := DataW.trod_array hu htr
        cases hx
        simp only [DataW.weights, hu] at hw
        have hwe := weights_all hw
        have each : ∀ i, i < m → ∃ x : σ.den, σ.rd (okW W) W Sub.none x (fun j => ((cs.drop (i * σ.sz)).take σ.sz)[j]?) ∧ σ.wfd x := by
          intro i hi
          have hq := h3 i hi
          rw [List.getElem?_eq_getElem (by omega), l2] at hq
          obtain ⟨x, x1, _, x3⟩ := ih _ _ hσ l1 _ _ _ _ (show _ = some ((xs[i]'(by omega)).1, (xs[i]'(by omega)).2) from hq) (hwe _ (List.mem_map.2 ⟨_, List.getElem_mem (by omega), rfl⟩))
          exact ⟨x, x1, x3⟩
        obtain ⟨ys, hyl, hys⟩ := choose_list m each
        refine ⟨ys, ⟨hyl, fun i hi => ?_⟩, by rw [h1, l3]; rfl, hyl, fun x hx => ?_⟩
        · exact Ty.rd_congr _ _ _ _ _ (fun j hj => drop_take_get hj) (hys i hi).1
        · obtain ⟨i, hi, rfl⟩ := List.mem_iff_getElem.1 hx
          exact (hys i hi).2
      | struct fs =>
        simp only at h hl
        rw [h] at hl
        simp only [Bool.and_eq_true, decide_eq_true_eq] at hl
        obtain ⟨l1, l2⟩ := hl
        obtain ⟨xs, k, rfl, hx, h1, h2, h3⟩ := DataW.trod_struct hu htr
        cases hx
        simp only [DataW.weights, hu] at hw
        obtain ⟨x, x1, x2⟩ := fields_read ih cs k fs.toList τ 0 xs h l1 (by simpa using h2) (fun i f hf => h3 i f (by simpa using hf)) hw
        exact ⟨x, by simpa using x1, by rw [h1, l2], x2⟩
      | _ => cases h
/-! ### a law's arguments -/
def wfs : (ps : List PK) → dens ps → Prop
  | [], _ => True
  | .v t :: ps, x => t.wfd x.1 ∧ wfs ps x.2
  | _ :: _, _ => False
def parsOK (P : Program) : List PK → List TypeId → Bool
  | [], [] => true
  | .v τ :: ps, t :: ts => decide (tyRo P 12 t = some τ) && layB P 12 t && P.readableRec t && decide (t < P.types.size) && parsOK P ps ts
  | _, _ => false
theorem agg_read {t : TypeId} {τ : Ty} {v : Value} (h : tyRo P 12 t = some τ) (hv : Value.okWide P W .any base t v) : Value.isAgg v = τ.agg := by
  unfold tyRo at h
  cases hu : P.underlying t with
  | none => rw [hu] at h; cases h
  | some D =>
    rw [hu] at h
    cases D with
    | int k => cases h; obtain ⟨n, rfl⟩ := okWide_int hu hv; rfl
    | bool => cases h; obtain ⟨n, rfl⟩ := okWide_bool hu hv; rfl
    | string => cases h; obtain ⟨n, rfl⟩ := okWide_string hu hv; rfl
    | slice e =>
      simp only [Option.map_eq_some_iff] at h
      obtain ⟨σ, _, rfl⟩ := h
      obtain ⟨a, l, c, rfl⟩ := okWide_slice hu hv; rfl
    | array m e =>
      simp only [Option.map_eq_some_iff] at h
      obtain ⟨σ, _, rfl⟩ := h
      simp only [Value.okWide, hu] at hv
      obtain ⟨cs, rfl, _⟩ := hv; rfl
    | struct fs =>
      simp only at h
      simp only [Value.okWide, hu] at hv
      obtain ⟨cs, rfl, _⟩ := hv
      cases hf : fs.toList with
      | nil => rw [hf] at h; simp only [tyFieldsRo, Option.some.injEq] at h; subst h; rfl
      | cons f l =>
        rw [hf] at h
        simp only [tyFieldsRo] at h
        split at h
        · cases h; rfl
        · cases h
    | _ => cases h
theorem args_read {b2 : Nat} (ok okO : Nat → Prop) (hok : ∀ b, b < W.heap.size → ok b) : ∀ (ps : List PK) (ts : List TypeId) (vs : List Value) (ds : List (DataW H)) (q : List MemPlace), parsOK P ps ts = true → DataW.TrodAll enc P W base spare held ts vs ds q →
    (∀ (j : Nat) t v, ts[j]? = some t → vs[j]? = some v → Value.okWide P W .any b2 t v) → (∀ m ∈ DataW.weightsEach P ts ds, m ≤ reachBytes) →
    ∃ (x : dens ps) (ls : List Sub), PsRel ok okO W ps x vs ls ∧ wfs ps x ∧ ioLocs ps ls = []
  | [], [], vs, ds, q, _, hA, _, _ => by
    obtain ⟨rfl, rfl, rfl⟩ := trodAll_nil hA
    exact ⟨(), [], ⟨rfl, rfl⟩, trivial, rfl⟩
  | .v τ :: ps, t :: ts, vs, ds, q, hp, hA, hv, hw => by
    simp only [parsOK, Bool.and_eq_true, decide_eq_true_eq] at hp
    obtain ⟨⟨⟨⟨p1, p2⟩, _⟩, _⟩, p3⟩ := hp
    obtain ⟨v, vs, d, ds, p, q', rfl, rfl, rfl, h0, hA'⟩ := trodAll_cons hA
    simp only [DataW.weightsEach, List.mem_append] at hw
    obtain ⟨fuel, hf⟩ := h0
    obtain ⟨x, x1, x2, x3⟩ := reads 12 t τ p1 p2 _ _ _ _ hf fun m hm => hw m (.inl hm)
    obtain ⟨y, ls, y1, y2, y3⟩ := args_read ok okO hok ps ts vs ds q' p3 hA' (fun j t v h1 h2 => hv (j + 1) t v (by simpa using h1) (by simpa using h2)) fun m hm => hw m (.inr hm)
    refine ⟨(x, y), Sub.none :: ls, ⟨v, vs, _, ls, rfl, rfl, ⟨?_, by simpa using x2, agg_read p1 (hv 0 t v rfl rfl)⟩, y1⟩, ⟨x3, y2⟩, by simpa [ioLocs, PK.io] using y3⟩
    refine Ty.rd_mono (fun b o h1 h2 => ⟨hok b h1, h2⟩) _ _ _ (Ty.rd_congr _ _ _ _ _ (fun j _ => ?_) x1)
    simp
  | [], _ :: _, _, _, _, hp, _, _, _ => by cases hp
  | .v _ :: _, [], _, _, _, hp, _, _, _ => by cases hp
  | .box _ :: _, _, _, _, _, hp, _, _, _ => by cases hp
  | .nl :: _, _, _, _, _, hp, _, _, _ => by cases hp
  | .fn0 _ :: _, _, _, _, _, hp, _, _, _ => by cases hp
  | .fnr _ _ :: _, _, _, _, _, hp, _, _, _ => by cases hp
  | .row _ :: _, _, _, _, _, hp, _, _, _ => by cases hp
  | .obox _ :: _, _, _, _, _, hp, _, _, _ => by cases hp
  | .mp _ _ :: _, _, _, _, _, hp, _, _, _ => by cases hp
  | .ref _ :: _, _, _, _, _, hp, _, _, _ => by cases hp
theorem args_stay (hl : laidOutB P = true) {W' : World} (hb : Below W.heap.size W W') : ∀ (ps : List PK) (ts : List TypeId) (vs : List Value) (ds : List (DataW H)) (q : List MemPlace), parsOK P ps ts = true → DataW.TrodAll enc P W 0 (fun _ => true) true ts vs ds q →
    DataW.TrodAll enc P W' 0 (fun b => decide (b < W.heap.size)) true ts vs ds q
  | [], [], vs, ds, q, _, hA => by
    obtain ⟨rfl, rfl, rfl⟩ := trodAll_nil hA
    exact trodAll_mk0
  | .v τ :: ps, t :: ts, vs, ds, q, hp, hA => by
    simp only [parsOK, Bool.and_eq_true, decide_eq_true_eq] at hp
    obtain ⟨⟨⟨⟨p1, p2⟩, p4⟩, p5⟩, p3⟩ := hp
    obtain ⟨v, vs, d, ds, p, q', rfl, rfl, rfl, h0, hA'⟩ := trodAll_cons hA
    have lt0 : ∀ x ∈ p, x.block < W.heap.size := by obtain ⟨m, hm⟩ := h0; exact DataW.trod_lt m _ _ _ hm
    exact trodAll_cons_mk (Below.trod hl p4 p5 h0 hb lt0) (args_stay hl hb ps ts vs ds q' p3 hA')
  | [], _ :: _, _, _, _, hp, _ => by cases hp
  | .v _ :: _, [], _, _, _, hp, _ => by cases hp
  | .box _ :: _, _, _, _, _, hp, _ => by cases hp
  | .nl :: _, _, _, _, _, hp, _ => by cases hp
  | .fn0 _ :: _, _, _, _, _, hp, _ => by cases hp
  | .fnr _ _ :: _, _, _, _, _, hp, _ => by cases hp
  | .row _ :: _, _, _, _, _, hp, _ => by cases hp
  | .obox _ :: _, _, _, _, _, hp, _ => by cases hp
  | .mp _ _ :: _, _, _, _, _, hp, _ => by cases hp
  | .ref _ :: _, _, _, _, _, hp, _ => by cases hp
end
/-- What a law that is told comes to; what is read, is at hand. -/
theorem law_calls_rel {H : Type} {enc : TypeId × Value → H} {P : Program} {f : FuncId} {S : Summ} (hS : SumOK P f S) (hres : S.res = [.v .bool]) (hfn : ∀ x, (S.fn x).1 = hres ▸ ((true, ()) : rdens [.v .bool]))
    {W : World} {b2 : Nat} {ts : List TypeId} {vs : List Value} {ds : List (DataW H)} {q : List MemPlace} (hpar : parsOK P S.par ts = true) (hA : DataW.TrodAll enc P W 0 (fun _ => true) true ts vs ds q)
    (hv : ∀ (j : Nat) t v, ts[j]? = some t → vs[j]? = some v → Value.okWide P W .any b2 t v) (hw : ∀ m ∈ DataW.weightsEach P ts ds, m ≤ reachBytes) (hpre : ∀ x ls, PsRel (okW W) (fun _ => False) W S.par x vs ls → wfs S.par x → S.pre x) :
    Calls P f vs.toArray W fun e W' => e = .returned (.bool true) ∧ Below W.heap.size W W' := by
  obtain ⟨x, ls, h1, h2, h3⟩ := args_read (okW W) (fun _ => False) (fun _ h => h) S.par ts vs ds q hpar hA hv hw
  refine (hS x vs ls W _ _ (hpre x ls h1 h2) h1 (by rw [h3]; intro i j l l' b hi; simp at hi) (by rw [h3]; simp)).mono fun e W' h => ?_
  obtain ⟨rs, rl, ls', rfl, hA⟩ := h
  have hk := hA.kept
  have hr := hA.res
  obtain ⟨par, res, esc, pre, fn⟩ := S
  simp only at hres
  subst hres
  simp only at hr hfn
  rw [hfn] at hr
  obtain ⟨v, vs', rfl, hv, rfl, _⟩ := hr
  have := VRel.bool_eq hv
  refine ⟨by simp [retVal, this], ⟨hk.os, hk.tape, hk.output, hk.size, fun k hk2 => hk.block k hk2 ?_⟩⟩
  simp only at h3
  rw [h3]
  simp
/-- What a law that is told comes to. -/
theorem law_calls {H : Type} {enc : TypeId × Value → H} {P : Program} {f : FuncId} {S : Summ} (hS : SumOK P f S) (hres : S.res = [.v .bool]) (hfn : ∀ x, (S.fn x).1 = hres ▸ ((true, ()) : rdens [.v .bool]))
    {W : World} {b2 : Nat} {ts : List TypeId} {vs : List Value} {ds : List (DataW H)} {q : List MemPlace} (hpar : parsOK P S.par ts = true) (hA : DataW.TrodAll enc P W 0 (fun _ => true) true ts vs ds q)
    (hv : ∀ (j : Nat) t v, ts[j]? = some t → vs[j]? = some v → Value.okWide P W .any b2 t v) (hw : ∀ m ∈ DataW.weightsEach P ts ds, m ≤ reachBytes) (hpre : ∀ x, wfs S.par x → S.pre x) :
    Calls P f vs.toArray W fun e W' => e = .returned (.bool true) ∧ Below W.heap.size W W' :=
  law_calls_rel hS hres hfn hpar hA hv hw fun x _ _ h => hpre x h
/-- So many elements as the reading has. -/
theorem slice_len {H : Type} {enc : TypeId × Value → H} {P : Program} {W : World} {base fuel : Nat} {spare : Nat → Bool} {held : Bool} {t e : TypeId} {a : Option Addr} {n c : Nat} {d : DataW H} {ps : List MemPlace} (hu : P.underlying t = some (.slice e))
    (h : DataW.trod enc P W base spare held fuel t [.slice a n c] = some (d, ps)) : n = 0 ∨ ∃ elems rest, d = .slice elems rest ∧ elems.length = n := by
  cases fuel with
  | zero => simp [DataW.trod] at h
  | succ fuel =>
    rcases DataW.trod_slice hu h with ⟨hc, _⟩ | ⟨a', len, cap, elems, rest, m, hm, hc, hx, hb, h1, h2, h3, h4, _⟩
    · cases hc; exact .inl rfl
    · cases hc; cases hx; exact .inr ⟨_, _, rfl, by simp only [List.length_map]; omega⟩
theorem vrel_ro {ok : Nat → Prop} {w : World} {t : Ty} {xs : List t.den} {v : Value} (h : VRel ok w (.ro t) xs v) : ∃ a c, v.cells.toList = [.slice a xs.length c] := by
  obtain ⟨⟨a, cap, h1, _⟩, h2, _⟩ := h
  have h1 : v.cells[0]? = some (.slice a xs.length cap) := h1
  have h2 : v.cells.size = 1 := h2
  refine ⟨a, cap, ?_⟩
  rw [← Array.getElem?_toList] at h1
  have h3 : v.cells.toList.length = 1 := by simpa using h2
  match hl : v.cells.toList, h3 with
  | [x], _ => rw [hl] at h1; simp at h1; rw [h1]
end Go.Lift
