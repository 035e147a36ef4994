/- Lines for the functions of this seat; merged from texts of their own. -/
import Derived.Test.YtefajmghpgiekaaLE
import Derived.IntWalk
import Derived.ChangeArms
import Derived.OpenShut
import Derived.SizedLaws
import Derived.Carry
import Derived.ChangeShapes
import Derived.WideShapes
set_option linter.unusedVariables false
set_option linter.unusedSimpArgs false
/- A function's contract out of its abstract run. -/
namespace Go.Lift
open Go

def Ty.noRo : Ty → Bool
  | .ro _ => false
  | .pair a b => a.noRo && b.noRo
  | .arr _ t => t.noRo
  | _ => true
theorem Ty.rd_noRo {ok ok' : Nat → Prop} {w : World} : ∀ (t : Ty) (x : t.den) (c : Nat → Option Value), t.noRo = true → t.rd ok w x c → t.rd ok' w x c := by
  intro t
  induction t with
  | int k => intro x c _ h; exact h
  | bool => intro x c _ h; exact h
  | str => intro x c _ h; exact h
  | unit => intro x c _ h; exact h
  | ro t ih => intro x c h; simp [Ty.noRo] at h
  | pair a b iha ihb => intro x c hn h; simp only [Ty.noRo, Bool.and_eq_true] at hn; exact ⟨iha _ _ hn.1 h.1, ihb _ _ hn.2 h.2⟩
  | arr n t ih => intro x c hn h; simp only [Ty.noRo] at hn; exact ⟨h.1, fun i hi => ih _ _ hn (h.2 i hi)⟩
theorem VRel.noRo {ok ok' : Nat → Prop} {w : World} {t : Ty} {x : t.den} {v : Value} (hn : t.noRo = true) (h : VRel ok w t x v) : VRel ok' w t x v := ⟨Ty.rd_noRo _ _ _ hn h.1, h.2⟩
def Reg.noRo : Reg → Bool
  | .row t _ => t.noRo
  | .box t _ => t.noRo
  | .obox t _ => t.noRo
theorem Reg.at_noRo {ok ok' : Nat → Prop} {w v : World} {l : Loc} {g : Reg} (hn : g.noRo = true) (h : g.at2 ok w v l) : g.at2 ok' w v l := by
  cases g with
  | row t xs =>
    refine ⟨h.1, ?_⟩
    have h2 := h.2
    cases hb : l.blk with
    | none => simp only [hb] at h2 ⊢; exact h2
    | some b =>
      simp only [hb] at h2 ⊢
      obtain ⟨cs, ty, fz, e1, e2, e3, e4⟩ := h2
      exact ⟨cs, ty, fz, e1, e2, e3, fun i hi => Ty.rd_noRo _ _ _ hn (e4 i hi)⟩
  | box t x =>
    obtain ⟨e0, b, cs, ty, fz, e1, e2, e3, e4, e5⟩ := h
    exact ⟨e0, b, cs, ty, fz, e1, e2, e3, e4, Ty.rd_noRo _ _ _ hn e5⟩
  | obox t o =>
    cases o with
    | none => exact h
    | some x =>
      obtain ⟨e0, b, cs, ty, fz, e1, e2, e3, e4, e5⟩ := h
      exact ⟨e0, b, cs, ty, fz, e1, e2, e3, e4, Ty.rd_noRo _ _ _ hn e5⟩

/-! ### how a call begins -/
def initT : (ps : List PK) → dens ps → Nat → List AV
  | [], _, _ => []
  | .v t :: ps, x, n => .s (.val t x.1) :: initT ps x.2 n
  | .nl :: ps, x, n => .s .nilsl :: initT ps x.2 n
  | .box _ :: ps, x, n => .s (.addr n []) :: initT ps x.2 (n + 1)
  | .row _ :: ps, x, n => .s (.sl n) :: initT ps x.2 (n + 1)
def initR : (ps : List PK) → dens ps → Nat → Regs
  | [], _, _ => []
  | .v _ :: ps, x, n => initR ps x.2 n
  | .nl :: ps, x, n => initR ps x.2 n
  | .box t :: ps, x, n => (n, .box t x.1) :: initR ps x.2 (n + 1)
  | .row t :: ps, x, n => (n, .row t x.1) :: initR ps x.2 (n + 1)
def ioCount (ps : List PK) : Nat := (ps.filter PK.io).length
def initSt (ps : List PK) (x : dens ps) (ntmps : Nat) : St :=
  { tmps := initT ps x 0 ++ List.replicate (ntmps - ps.length) (.s .undef), regs := initR ps x 0, next := ioCount ps }

/-! ### how it ends -/
def nnil (v : SV) (p : Prop) : Prop :=
  match v with
  | .nilsl => True
  | _ => p
/-- The results: what must hold, the regions handed out, those given up. -/
def resEnd (rs : Regs) : (ks : List RK) → rdens ks → List SV → Option (List Prop × List Nat × List Nat)
  | [], _, [] => some ([], [], [])
  | .v t :: ks, y, v :: vs => match toVal rs v t, resEnd rs ks y.2 vs with
    | some (z, l), some (vc, ids, ds) => some ((z = y.1) :: vc, ids, l ++ ds)
    | _, _ => none
  | .vn t :: ks, y, v :: vs => match toVal rs v (.ro t), resEnd rs ks y.2 vs with
    | some (z, l), some (vc, ids, ds) => some (((z : List t.den) = y.1) :: nnil v ((z : List t.den) ≠ []) :: vc, ids, l ++ ds)
    | _, _ => none
  | .row t :: ks, y, .sl r :: vs => match look rs r with
    | some (.row t' xs) => match castTy (.ro t') (.ro t) xs, resEnd rs ks y.2 vs with
      | some z, some (vc, ids, ds) => some (((z : List t.den) = y.1) :: vc, r :: ids, ds)
      | _, _ => none
    | _ => none
  | .row _ :: ks, y, .nilsl :: vs => match resEnd rs ks y.2 vs with
    | some (vc, ids, ds) => some (([] = y.1) :: vc, ids, ds)
    | none => none
  | .box t :: ks, y, .addr r [] :: vs => match look rs r with
    | some (.box t' x) => match castTy t' t x, resEnd rs ks y.2 vs with
      | some z, some (vc, ids, ds) => some ((z = y.1) :: vc, r :: ids, ds)
      | _, _ => none
    | _ => none
  | .obox t :: ks, y, .addr r [] :: vs => match look rs r with
    | some (.box t' x) => match castTy t' t x, resEnd rs ks y.2 vs with
      | some z, some (vc, ids, ds) => some ((some z = y.1) :: vc, r :: ids, ds)
      | _, _ => none
    | _ => none
  | .obox _ :: ks, y, .nilp :: vs => match resEnd rs ks y.2 vs with
    | some (vc, ids, ds) => some ((none = y.1) :: vc, ids, ds)
    | none => none
  | _, _, _ => none
def ioEnd (rs : Regs) : (ps : List PK) → outs ps → Nat → Option (List Prop)
  | [], _, _ => some []
  | .v _ :: ps, y, n => ioEnd rs ps y.2 n
  | .nl :: ps, y, n => ioEnd rs ps y.2 n
  | .box t :: ps, y, n => match look rs n with
    | some (.box t' x) => match castTy t' t x, ioEnd rs ps y.2 (n + 1) with
      | some z, some vc => some ((z = y.1) :: vc)
      | _, _ => none
    | _ => none
  | .row t :: ps, y, n => match look rs n with
    | some (.row t' xs) => match castTy (.ro t') (.ro t) xs, ioEnd rs ps y.2 (n + 1) with
      | some z, some vc => some (((z : List t.den) = y.1) :: vc)
      | _, _ => none
    | _ => none
def lenEnd : (ps : List PK) → dens ps → outs ps → List Prop
  | [], _, _ => []
  | .v _ :: ps, x, y => lenEnd ps x.2 y.2
  | .nl :: ps, x, y => lenEnd ps x.2 y.2
  | .box _ :: ps, x, y => lenEnd ps x.2 y.2
  | .row _ :: ps, x, y => (List.length y.1 = List.length x.1) :: lenEnd ps x.2 y.2
/-- Where a result stands: in a temporary, or in a variable of a type at the address there. -/
abbrev ResAt := Tmp × Option TypeId
def resT : ResultVar → ResAt
  | .tmp t => (t, none)
  | .cell a t => (a, some t)
def resTmps (fn : Func) : List ResAt := fn.results.toList.map resT
def getS (P : Program) (rs : Regs) (tm : List AV) : List ResAt → Option (List SV)
  | [] => some []
  | (t, none) :: ts => match tm[t]?, getS P rs tm ts with
    | some (.s v), some vs => some (weakS v :: vs)
    | _, _ => none
  | (t, some ty) :: ts => match tm[t]?, getS P rs tm ts with
    | some (.s x), some vs => match loadV P rs ty x with
      | some v => some (v :: vs)
      | none => none
    | _, _ => none
def RK.ty : RK → Ty
  | .v t => t
  | .vn t => .ro t
  | .row t => t
  | .box t => t
  | .obox t => t
def PK.ty : PK → Ty
  | .v t => t
  | .nl => .unit
  | .box t => t
  | .row t => t
def plainS (S : Summ) : Bool := S.esc || (S.res.all (fun k => k.ty.noRo) && S.par.all (fun p => !p.io || p.ty.noRo))
def fin (P : Program) (S : Summ) (x : dens S.par) (ts : List ResAt) (nio : Nat) (e : AExit) (st : St) : Prop :=
  match e with
  | .exit _ => False
  | _ => match getS P st.regs st.tmps ts with
    | some vs => match resEnd st.regs S.res (S.fn x).1 vs, ioEnd st.regs S.par (S.fn x).2 0 with
      | some (vc, ids, ds), some vc2 => if nodupB ids && ids.all (fun r => decide (nio ≤ r) && !ds.contains r) && ds.all (fun r => decide (nio ≤ r)) then andAll (vc ++ vc2 ++ lenEnd S.par x (S.fn x).2) True else False
      | _, _ => False
    | none => False

end Go.Lift
/- A function's contract out of its abstract run: soundness. -/
namespace Go.Lift
open Go

def ioList : List PK → List Loc → Nat → List (Nat × Loc)
  | p :: ps, l :: ls, n => if p.io then (n, l) :: ioList ps ls (n + 1) else ioList ps ls n
  | _, _, _ => []
theorem ioList_locs : ∀ (ps : List PK) (ls : List Loc) (n : Nat), (ioList ps ls n).map (·.2) = ioLocs ps ls
  | [], _, _ => by simp [ioList, ioLocs]
  | _ :: _, [], _ => by simp [ioList, ioLocs]
  | p :: ps, l :: ls, n => by
    simp only [ioList, ioLocs]
    split
    · simp [ioList_locs ps ls]
    · exact ioList_locs ps ls n
theorem ioList_get : ∀ (ps : List PK) (ls : List Loc) (n r : Nat) (l : Loc), (r, l) ∈ ioList ps ls n → n ≤ r ∧ r < n + ioCount ps ∧ (ioLocs ps ls)[r - n]? = some l
  | [], _, _, _, _, h => by simp [ioList] at h
  | _ :: _, [], _, _, _, h => by simp [ioList] at h
  | p :: ps, l0 :: ls, n, r, l, h => by
    simp only [ioList, ioLocs, ioCount] at h ⊢
    split at h
    · rename_i hp
      rw [if_pos hp, List.filter_cons_of_pos hp]
      rcases List.mem_cons.1 h with h | h
      · cases h; simp
      · obtain ⟨h1, h2, h3⟩ := ioList_get ps ls (n + 1) r l h
        have : r - n = (r - (n + 1)) + 1 := by omega
        rw [this]
        refine ⟨by omega, ?_, by simpa using h3⟩
        simp only [ioCount] at h2
        simp only [List.length_cons]; omega
    · rename_i hp
      rw [if_neg hp, List.filter_cons_of_neg hp]
      exact ioList_get ps ls n r l h

theorem initR_look : ∀ (ps : List PK) (x : dens ps) (n r : Nat) (g : Reg), look (initR ps x n) r = some g → n ≤ r ∧ r < n + ioCount ps
  | [], _, _, _, _, h => by simp [initR, look] at h
  | .v t :: ps, x, n, r, g, h => by
    have := initR_look ps x.2 n r g h
    simpa [ioCount, PK.io] using this
  | .nl :: ps, x, n, r, g, h => by
    have := initR_look ps x.2 n r g h
    simpa [ioCount, PK.io] using this
  | .box t :: ps, x, n, r, g, h => by
    simp only [initR, look] at h
    have e : ioCount (.box t :: ps) = ioCount ps + 1 := by unfold ioCount; rw [List.filter_cons_of_pos rfl]; rfl
    split at h
    · omega
    · have := initR_look ps x.2 (n + 1) r g h; omega
  | .row t :: ps, x, n, r, g, h => by
    simp only [initR, look] at h
    have e : ioCount (.row t :: ps) = ioCount ps + 1 := by unfold ioCount; rw [List.filter_cons_of_pos rfl]; rfl
    split at h
    · omega
    · have := initR_look ps x.2 (n + 1) r g h; omega

theorem init_rel {ok okO okk : Nat → Prop} {w : World} {φ : Phi} (h1 : ∀ b o, ok b → w.heap[b]? = some o → okk b ∧ w.heap[b]? = some o) (h2 : ∀ b o, okO b → w.heap[b]? = some o → okk b ∧ w.heap[b]? = some o) :
    ∀ (ps : List PK) (x : dens ps) (args : List Value) (ls : List Loc) (n : Nat) (rs : Regs), PsRel ok okO w ps x args ls → (∀ k l, (ioLocs ps ls)[k]? = some l → φ (n + k) = l) → (∀ r, n ≤ r → look rs r = look (initR ps x n) r) →
      (initT ps x n).length = args.length ∧ (∀ i av, (initT ps x n)[i]? = some av → AVRel rs φ okk w av (args.getD i undef)) ∧
      (∀ r g, look (initR ps x n) r = some g → g.at okk w (φ r) ∧ ∃ l, (r, l) ∈ ioList ps ls n ∧ φ r = l) ∧ (∀ (i : Nat) (av : AV), (initT ps x n)[i]? = some av → av.ltB (n + ioCount ps) = true)
  | [], x, args, ls, n, rs, h, _, _ => by
    obtain ⟨rfl, rfl⟩ := h
    simp [initT, initR, look]
  | p :: ps, x, args, ls, n, rs, h, hφ, hrs => by
    obtain ⟨v, vs, l, ls', rfl, rfl, hp, ht⟩ := h
    cases p with
    | v t =>
      have hφ' : ∀ k l', (ioLocs ps ls')[k]? = some l' → φ (n + k) = l' := fun k l' hk => hφ k l' (by simpa [ioLocs, PK.io] using hk)
      obtain ⟨i1, i2, i3, i4⟩ := init_rel h1 h2 ps x.2 vs ls' n rs ht hφ' hrs
      have e : ioCount (.v t :: ps) = ioCount ps := by unfold ioCount; rw [List.filter_cons_of_neg (by simp [PK.io])]
      refine ⟨by simp [initT, i1], ?_, ?_, ?_⟩
      · intro i av hi
        cases i with
        | zero => simp only [initT, List.getElem?_cons_zero, Option.some.injEq] at hi; subst hi; exact VRel.mono h1 hp
        | succ i => simp only [initT, List.getElem?_cons_succ] at hi; simpa using i2 i av hi
      · intro r g hg
        obtain ⟨j1, l', j2, j3⟩ := i3 r g hg
        exact ⟨j1, l', by simpa [ioList, PK.io] using j2, j3⟩
      · intro i av hi
        rw [e]
        cases i with
        | zero => simp only [initT, List.getElem?_cons_zero, Option.some.injEq] at hi; subst hi; rfl
        | succ i => simp only [initT, List.getElem?_cons_succ] at hi; exact i4 i av hi
    | nl =>
      have hφ' : ∀ k l', (ioLocs ps ls')[k]? = some l' → φ (n + k) = l' := fun k l' hk => hφ k l' (by simpa [ioLocs, PK.io] using hk)
      obtain ⟨i1, i2, i3, i4⟩ := init_rel h1 h2 ps x.2 vs ls' n rs ht hφ' hrs
      have e : ioCount (.nl :: ps) = ioCount ps := by unfold ioCount; rw [List.filter_cons_of_neg (by simp [PK.io])]
      refine ⟨by simp [initT, i1], ?_, ?_, ?_⟩
      · intro i av hi
        cases i with
        | zero => simp only [initT, List.getElem?_cons_zero, Option.some.injEq] at hi; subst hi; exact hp
        | succ i => simp only [initT, List.getElem?_cons_succ] at hi; simpa using i2 i av hi
      · intro r g hg
        obtain ⟨j1, l', j2, j3⟩ := i3 r g hg
        exact ⟨j1, l', by simpa [ioList, PK.io] using j2, j3⟩
      · intro i av hi
        rw [e]
        cases i with
        | zero => simp only [initT, List.getElem?_cons_zero, Option.some.injEq] at hi; subst hi; rfl
        | succ i => simp only [initT, List.getElem?_cons_succ] at hi; exact i4 i av hi
    | box t =>
      have hφ0 : φ n = l := by have := hφ 0 l (by simp [ioLocs, PK.io]); simpa using this
      have hφ' : ∀ k l', (ioLocs ps ls')[k]? = some l' → φ (n + 1 + k) = l' := fun k l' hk => by
        have := hφ (k + 1) l' (by simpa [ioLocs, PK.io] using hk)
        rw [show n + 1 + k = n + (k + 1) from by omega]; exact this
      have hrs' : ∀ r, n + 1 ≤ r → look rs r = look (initR ps x.2 (n + 1)) r := fun r hr => by
        rw [hrs r (by omega)]
        simp only [initR, look]
        rw [if_neg (by omega)]
      obtain ⟨i1, i2, i3, i4⟩ := init_rel h1 h2 ps x.2 vs ls' (n + 1) rs ht hφ' hrs'
      have e : ioCount (.box t :: ps) = ioCount ps + 1 := by unfold ioCount; rw [List.filter_cons_of_pos rfl]; rfl
      obtain ⟨q1, b, q2, q3⟩ := hp
      refine ⟨by simp [initT, i1], ?_, ?_, ?_⟩
      · intro i av hi
        cases i with
        | zero =>
          simp only [initT, List.getElem?_cons_zero, Option.some.injEq] at hi
          subst hi
          intro g hg
          rw [hrs n (Nat.le_refl n)] at hg
          simp only [initR, look, if_true, Option.some.injEq] at hg
          subst hg
          exact ⟨b, by rw [hφ0]; exact q2, by simp [pok], by simpa [poff] using q3⟩
        | succ i => simp only [initT, List.getElem?_cons_succ] at hi; simpa using i2 i av hi
      · intro r g hg
        simp only [initR, look] at hg
        split at hg
        · rename_i e2
          subst e2; cases hg
          exact ⟨by rw [hφ0]; exact Reg.at_mono h2 (fun _ _ => rfl) q1, l, by simp [ioList, PK.io], hφ0⟩
        · obtain ⟨j1, l', j2, j3⟩ := i3 r g hg
          exact ⟨j1, l', by simp [ioList, PK.io, j2], j3⟩
      · intro i av hi
        rw [e]
        cases i with
        | zero => simp only [initT, List.getElem?_cons_zero, Option.some.injEq] at hi; subst hi; simp [AV.ltB, SV.ltB]
        | succ i =>
          simp only [initT, List.getElem?_cons_succ] at hi
          have := i4 i av hi
          rwa [show n + (ioCount ps + 1) = n + 1 + ioCount ps from by omega]
    | row t =>
      have hφ0 : φ n = l := by have := hφ 0 l (by simp [ioLocs, PK.io]); simpa using this
      have hφ' : ∀ k l', (ioLocs ps ls')[k]? = some l' → φ (n + 1 + k) = l' := fun k l' hk => by
        have := hφ (k + 1) l' (by simpa [ioLocs, PK.io] using hk)
        rw [show n + 1 + k = n + (k + 1) from by omega]; exact this
      have hrs' : ∀ r, n + 1 ≤ r → look rs r = look (initR ps x.2 (n + 1)) r := fun r hr => by
        rw [hrs r (by omega)]
        simp only [initR, look]
        rw [if_neg (by omega)]
      obtain ⟨i1, i2, i3, i4⟩ := init_rel h1 h2 ps x.2 vs ls' (n + 1) rs ht hφ' hrs'
      have e : ioCount (.row t :: ps) = ioCount ps + 1 := by unfold ioCount; rw [List.filter_cons_of_pos rfl]; rfl
      obtain ⟨q1, q3⟩ := hp
      refine ⟨by simp [initT, i1], ?_, ?_, ?_⟩
      · intro i av hi
        cases i with
        | zero =>
          simp only [initT, List.getElem?_cons_zero, Option.some.injEq] at hi
          subst hi
          intro t' xs' hg
          rw [hrs n (Nat.le_refl n)] at hg
          simp only [initR, look, if_true, Option.some.injEq] at hg
          cases hg
          rw [hφ0]
          exact q3
        | succ i => simp only [initT, List.getElem?_cons_succ] at hi; simpa using i2 i av hi
      · intro r g hg
        simp only [initR, look] at hg
        split at hg
        · rename_i e2
          subst e2; cases hg
          exact ⟨by rw [hφ0]; exact Reg.at_mono h2 (fun _ _ => rfl) q1, l, by simp [ioList, PK.io], hφ0⟩
        · obtain ⟨j1, l', j2, j3⟩ := i3 r g hg
          exact ⟨j1, l', by simp [ioList, PK.io, j2], j3⟩
      · intro i av hi
        rw [e]
        cases i with
        | zero => simp only [initT, List.getElem?_cons_zero, Option.some.injEq] at hi; subst hi; simp [AV.ltB, SV.ltB]
        | succ i =>
          simp only [initT, List.getElem?_cons_succ] at hi
          have := i4 i av hi
          rwa [show n + (ioCount ps + 1) = n + 1 + ioCount ps from by omega]

def resF (tmps : Array Value) : ResultVar → Sem Value
  | .tmp t => pure (tmps.getD t undef)
  | .cell a t => do loadVar t (← asAddr (tmps.getD a undef))
theorem results_eq (fn : Func) (tmps : Array Value) : results fn tmps = (do
    let vs ← fn.results.mapM (resF tmps)
    pure (if h : vs.size = 1 then vs[0] else .tuple vs)) := rfl
/-- What the machine reads as the results. -/
def ResVals (P : Program) (w : World) (tmps : Array Value) : List ResAt → List Value → Prop
  | [], vs => vs = []
  | (t, none) :: ts, vs => ∃ vs', vs = tmps.getD t undef :: vs' ∧ ResVals P w tmps ts vs'
  | (t, some ty) :: ts, vs => ∃ v vs', vs = v :: vs' ∧ (do loadVar ty (← asAddr (tmps.getD t undef)) : Sem Value).run P w = .ok v w ∧ ResVals P w tmps ts vs'
theorem run_results {P : Program} {fn : Func} {tmps : Array Value} {w : World} {vs : List Value} (h : ResVals P w tmps (resTmps fn) vs) : (results fn tmps).run P w = .ok (retVal vs) w := by
  have key : ∀ (l : List ResultVar) (vs : List Value), ResVals P w tmps (l.map resT) vs → (l.mapM (resF tmps)).run P w = .ok vs w := by
    intro l
    induction l with
    | nil => intro vs h; have h : vs = [] := h; subst h; simp
    | cons r l ih =>
      intro vs h
      cases r with
      | cell a t =>
        obtain ⟨v, vs', rfl, h1, h2⟩ := h
        rw [List.mapM_cons]
        have h1' : (resF tmps (.cell a t)).run P w = .ok v w := h1
        simp only [Sem.run_bind, h1', Sem.run_pure, Result.andThen_ok, ih vs' h2]
      | tmp t =>
        obtain ⟨vs', rfl, h2⟩ := h
        rw [List.mapM_cons]
        simp only [Sem.run_bind, resF, Sem.run_pure, Result.andThen_ok, ih vs' h2]
  have hk := key _ vs h
  rw [results_eq]
  simp only [Array.mapM_eq_mapM_toList, Sem.run_bind, Sem.run_map, hk, Result.andThen_ok, Sem.run_pure]
  congr 1
  cases vs with
  | nil => rfl
  | cons t ts => cases ts with
    | nil => rfl
    | cons t2 ts => simp [retVal]
theorem asAddr_of_sure {P : Program} {w : World} {t : TypeId} {X V : Value} (h : (Instr.loadAt t X).run P w = .ok V w) : (do loadVar t (← asAddr X) : Sem Value).run P w = .ok V w := by
  cases X with
  | pointer a =>
    cases a with
    | some a => simpa [Instr.loadAt, Instr.sureAddr, asAddr] using h
    | none => simp [Instr.loadAt, Instr.sureAddr] at h
  | _ => simp [Instr.loadAt, Instr.sureAddr] at h
theorem getS_sound {cx : Cx} {φ : Phi} {st : St} {a : Act} {w : World} (R : RelF cx φ st a w) : ∀ (ts : List ResAt) (vs : List SV), getS cx.P st.regs st.tmps ts = some vs →
    ∃ Vs, ResVals cx.P w a.tmps ts Vs ∧ All2 (SVRel st.regs φ (okOf st.regs φ) w) vs Vs
  | [], vs, h => by simp only [getS, Option.some.injEq] at h; subst h; exact ⟨[], rfl, .nil⟩
  | (t, none) :: ts, vs, h => by
    simp only [getS] at h
    split at h
    · rename_i v vs' h1 h2
      cases h
      obtain ⟨Vs, k1, k2⟩ := getS_sound R ts vs' h2
      exact ⟨_, ⟨Vs, rfl, k1⟩, .cons (weakS_sound (R.tm t _ h1)) k2⟩
    · cases h
  | (t, some ty) :: ts, vs, h => by
    simp only [getS] at h
    split at h
    · rename_i x vs' h1 h2
      split at h
      · rename_i v hl
        cases h
        obtain ⟨Vs, k1, k2⟩ := getS_sound R ts vs' h2
        obtain ⟨V, l1, l2⟩ := loadV_sound R hl (R.tm t _ h1)
        exact ⟨_, ⟨V, Vs, rfl, asAddr_of_sure l1, k1⟩, .cons l2 k2⟩
      · cases h
    · cases h

end Go.Lift
/- A function's contract out of its abstract run: the whole. -/
namespace Go.Lift
open Go

theorem resEnd_sound {cx : Cx} {φ : Phi} {st : St} {a : Act} {w : World} (R : RelF cx φ st a w) (D : List Nat) (esc : Bool) {tgt : Nat → Prop}
    (ht : esc = true → ∀ b, okOf (dels st.regs D) φ b → tgt b) :
    ∀ (ks : List RK) (y : rdens ks) (vs : List SV) (Vs : List Value) (vc : List Prop) (ids ds : List Nat), resEnd st.regs ks y vs = some (vc, ids, ds) → (∀ p ∈ vc, p) → (∀ r ∈ ds, r ∈ D) →
      (esc = true ∨ ks.all (fun k => k.ty.noRo) = true) → All2 (SVRel st.regs φ (okOf st.regs φ) w) vs Vs →
      ∃ rl, RsRel tgt w ks y Vs rl ∧ blks (freshLocs ks rl) = blks (ids.map φ) ∧ ∀ r ∈ ids, ∃ g, look st.regs r = some g := by
  have hreg : ∀ (g : Reg) (l : Loc), (esc = true ∨ g.noRo = true) → g.at (okOf st.regs φ) w l → g.at tgt w l := by
    intro g l h hg
    rcases h with h | h
    · exact Reg.at_mono (fun b o h1 h2 => ⟨ht h b (okOf_dels D h1), h2⟩) (fun _ _ => rfl) hg
    · exact Reg.at_noRo h hg
  intro ks
  induction ks with
  | nil =>
    intro y vs Vs vc ids ds h hvc hD hn hall
    cases vs with
    | nil =>
      cases hall
      simp only [resEnd, Option.some.injEq, Prod.mk.injEq] at h
      obtain ⟨_, rfl, _⟩ := h
      exact ⟨[], ⟨rfl, rfl⟩, rfl, by simp⟩
    | cons v vs => simp [resEnd] at h
  | cons k ks ih =>
    intro y vs Vs vc ids ds h hvc hD hn hall
    have hnt : esc = true ∨ ks.all (fun k => k.ty.noRo) = true := by
      rcases hn with hn | hn
      · exact .inl hn
      · simp only [List.all_cons, Bool.and_eq_true] at hn; exact .inr hn.2
    have hnh : esc = true ∨ k.ty.noRo = true := by
      rcases hn with hn | hn
      · exact .inl hn
      · simp only [List.all_cons, Bool.and_eq_true] at hn; exact .inr hn.1
    cases vs with
    | nil => cases k <;> simp [resEnd] at h
    | cons v vs =>
      cases hall with
      | @cons _ V _ Vs' hv hall' =>
      cases k with
      | v t =>
        simp only [resEnd] at h
        split at h
        · rename_i z l vc' ids' ds' hz hr
          cases h
          obtain ⟨rl, i1, i2, i3⟩ := ih y.2 vs Vs' vc' _ ds' hr (fun p hp => hvc p (by simp [hp])) (fun r hr => hD r (by simp [hr])) hnt hall'
          have e : z = y.1 := hvc _ (by simp)
          have hV := toVal_sound R hz hv
          refine ⟨⟨none, 0, 0⟩ :: rl, ⟨V, Vs', _, rl, rfl, rfl, ?_, i1⟩, by simpa [freshLocs, RK.fresh] using i2, i3⟩
          show VRel tgt w t y.1 V
          rw [← e]
          rcases hnh with h1 | h1
          · refine VRel.mono (fun b o h2 h3 => ⟨ht h1 b ⟨fun r g hg => ?_, h2.2⟩, h3⟩) hV
            refine h2.1 r g ?_
            rw [look_dels] at hg ⊢
            split at hg
            · cases hg
            · rename_i hnD
              rw [if_neg (fun hl => hnD (hD r (by simp [hl])))]
              exact hg
          · exact VRel.noRo h1 hV
        · cases h
      | vn t =>
        simp only [resEnd] at h
        split at h
        · rename_i z l vc' ids' ds' hz hr
          cases h
          obtain ⟨rl, i1, i2, i3⟩ := ih y.2 vs Vs' vc' _ ds' hr (fun p hp => hvc p (by simp [hp])) (fun r hr => hD r (by simp [hr])) hnt hall'
          have e : z = y.1 := hvc _ (by simp)
          have hV := toVal_sound R hz hv
          refine ⟨⟨none, 0, 0⟩ :: rl, ⟨V, Vs', _, rl, rfl, rfl, ?_, i1⟩, by simpa [freshLocs, RK.fresh] using i2, i3⟩
          have hnn := hvc (nnil v ((z : List t.den) ≠ [])) (by simp)
          refine ⟨?_, fun hy => ?_⟩
          rotate_left
          · unfold nnil at hnn
            split at hnn
            · exact hv
            · exact (hnn (by rw [e]; exact hy)).elim
          show VRel tgt w (.ro t) y.1 V
          rw [← e]
          rcases hnh with h1 | h1
          · refine VRel.mono (fun b o h2 h3 => ⟨ht h1 b ⟨fun r g hg => ?_, h2.2⟩, h3⟩) hV
            refine h2.1 r g ?_
            rw [look_dels] at hg ⊢
            split at hg
            · cases hg
            · rename_i hnD
              rw [if_neg (fun hl => hnD (hD r (by simp [hl])))]
              exact hg
          · exact VRel.noRo h1 hV
        · cases h
      | row t =>
        cases v with
        | sl r =>
          simp only [resEnd] at h
          split at h
          · rename_i t' xs hl
            split at h
            · rename_i z vc' ids' ds' hz hr
              cases h
              obtain ⟨e1, e2⟩ := castTy_some hz
              cases e1
              subst e2
              obtain ⟨rl, i1, i2, i3⟩ := ih y.2 vs Vs' vc' ids' _ hr (fun p hp => hvc p (by simp [hp])) hD hnt hall'
              have e : xs = y.1 := hvc _ (by simp)
              refine ⟨φ r :: rl, ⟨V, Vs', _, rl, rfl, rfl, ⟨?_, ?_⟩, i1⟩, ?_, ?_⟩
              · rw [← e]; exact hreg _ _ hnh (R.rg r _ hl)
              · rw [← e]; exact hv _ _ hl
              · simp only [freshLocs, RK.fresh, if_true, blks, List.map_cons, List.filterMap_cons]
                simp only [blks] at i2
                rw [i2]
              · intro s hs
                rcases List.mem_cons.1 hs with hs | hs
                · exact ⟨_, hs ▸ hl⟩
                · exact i3 s hs
            · cases h
          · cases h
        | nilsl =>
          simp only [resEnd] at h
          split at h
          · rename_i vc' ids' ds' hr
            cases h
            obtain ⟨rl, i1, i2, i3⟩ := ih y.2 vs Vs' vc' ids _ hr (fun p hp => hvc p (by simp [hp])) hD hnt hall'
            have e : [] = y.1 := hvc _ (by simp)
            refine ⟨⟨none, 0, 0⟩ :: rl, ⟨V, Vs', _, rl, rfl, rfl, ⟨?_, ?_⟩, i1⟩, ?_, i3⟩
            · rw [← e]; exact ⟨Nat.le_refl _, rfl⟩
            · rw [← e]; exact hv
            · simp only [freshLocs, RK.fresh, if_true, blks, List.filterMap_cons]
              simpa [blks] using i2
          · cases h
        | _ => simp [resEnd] at h
      | box t =>
        cases v with
        | addr r p =>
          cases p with
          | cons s p => simp [resEnd] at h
          | nil =>
          simp only [resEnd] at h
          split at h
          · rename_i t' x hl
            split at h
            · rename_i z vc' ids' ds' hz hr
              cases h
              obtain ⟨e1, e2⟩ := castTy_some hz
              subst e1
              subst e2
              obtain ⟨rl, i1, i2, i3⟩ := ih y.2 vs Vs' vc' ids' _ hr (fun p hp => hvc p (by simp [hp])) hD hnt hall'
              have e : x = y.1 := hvc _ (by simp)
              obtain ⟨b, e3, e4, e5⟩ := hv _ hl
              refine ⟨φ r :: rl, ⟨V, Vs', _, rl, rfl, rfl, ⟨?_, ?_⟩, i1⟩, ?_, ?_⟩
              · rw [← e]; exact hreg _ _ hnh (R.rg r _ hl)
              · rw [e5, e3]; simp [poff]
              · simp only [freshLocs, RK.fresh, if_true, blks, List.map_cons, List.filterMap_cons]
                simp only [blks] at i2
                rw [i2]
              · intro s hs
                rcases List.mem_cons.1 hs with hs | hs
                · exact ⟨_, hs ▸ hl⟩
                · exact i3 s hs
            · cases h
          · cases h
        | _ => simp [resEnd] at h
      | obox t =>
        cases v with
        | addr r p =>
          cases p with
          | cons s p => simp [resEnd] at h
          | nil =>
          simp only [resEnd] at h
          split at h
          · rename_i t' x hl
            split at h
            · rename_i z vc' ids' ds' hz hr
              cases h
              obtain ⟨e1, e2⟩ := castTy_some hz
              subst e1
              subst e2
              obtain ⟨rl, i1, i2, i3⟩ := ih y.2 vs Vs' vc' ids' _ hr (fun p hp => hvc p (by simp [hp])) hD hnt hall'
              have e : some x = y.1 := hvc _ (by simp)
              obtain ⟨b, e3, e4, e5⟩ := hv _ hl
              refine ⟨φ r :: rl, ⟨V, Vs', _, rl, rfl, rfl, ⟨?_, ?_⟩, i1⟩, ?_, ?_⟩
              · rw [← e]; exact ⟨(hreg (.box t' x) _ hnh (R.rg r _ hl)).1, (hreg (.box t' x) _ hnh (R.rg r _ hl)).2⟩
              · rw [e5, e3]; simp [poff]
              · simp only [freshLocs, RK.fresh, if_true, blks, List.map_cons, List.filterMap_cons]
                simp only [blks] at i2
                rw [i2]
              · intro s hs
                rcases List.mem_cons.1 hs with hs | hs
                · exact ⟨_, hs ▸ hl⟩
                · exact i3 s hs
            · cases h
          · cases h
        | nilp =>
          simp only [resEnd] at h
          split at h
          · rename_i vc' ids' ds' hr
            cases h
            obtain ⟨rl, i1, i2, i3⟩ := ih y.2 vs Vs' vc' ids _ hr (fun p hp => hvc p (by simp [hp])) hD hnt hall'
            have e : none = y.1 := hvc _ (by simp)
            refine ⟨⟨none, 0, 0⟩ :: rl, ⟨V, Vs', _, rl, rfl, rfl, ⟨?_, hv⟩, i1⟩, ?_, i3⟩
            · rw [← e]; rfl
            · simp only [freshLocs, RK.fresh, if_true, blks, List.filterMap_cons]
              simpa [blks] using i2
          · cases h
        | _ => simp [resEnd] at h

theorem ioEnd_sound {cx : Cx} {φ : Phi} {st : St} {a : Act} {w : World} (R : RelF cx φ st a w) (esc : Bool) {tgt : Nat → Prop}
    (ht : esc = true → ∀ b, okOf st.regs φ b → tgt b) :
    ∀ (ps : List PK) (x : dens ps) (y : outs ps) (n : Nat) (ls : List Loc) (vc : List Prop), ls.length = ps.length → ioEnd st.regs ps y n = some vc → (∀ p ∈ vc, p) → (∀ p ∈ lenEnd ps x y, p) →
      (∀ r l, (r, l) ∈ ioList ps ls n → (r, l) ∈ cx.io) → (esc = true ∨ ps.all (fun p => !p.io || p.ty.noRo) = true) → OutRel tgt w ps x y ls ∧ ∀ r l, (r, l) ∈ ioList ps ls n → ∃ g, look st.regs r = some g := by
  have hreg : ∀ (g : Reg) (l : Loc), (esc = true ∨ g.noRo = true) → g.at (okOf st.regs φ) w l → g.at tgt w l := by
    intro g l h hg
    rcases h with h | h
    · exact Reg.at_mono (fun b o h1 h2 => ⟨ht h b h1, h2⟩) (fun _ _ => rfl) hg
    · exact Reg.at_noRo h hg
  intro ps
  induction ps with
  | nil =>
    intro x y n ls vc hlen h hvc hle hio hn
    cases ls with
    | nil => exact ⟨trivial, by simp [ioList]⟩
    | cons l ls => simp at hlen
  | cons p ps ih =>
    intro x y n ls vc hlen h hvc hle hio hn
    cases ls with
    | nil => simp at hlen
    | cons l ls =>
    have hlen' : ls.length = ps.length := by simpa using hlen
    have hnt : esc = true ∨ ps.all (fun p => !p.io || p.ty.noRo) = true := by
      rcases hn with hn | hn
      · exact .inl hn
      · simp only [List.all_cons, Bool.and_eq_true] at hn; exact .inr hn.2
    have hnh : p.io = true → (esc = true ∨ p.ty.noRo = true) := by
      intro hp
      rcases hn with hn | hn
      · exact .inl hn
      · simp only [List.all_cons, Bool.and_eq_true, hp, Bool.not_true, Bool.false_or] at hn; exact .inr hn.1
    cases p with
    | v t =>
      simp only [ioEnd] at h
      exact ih x.2 y.2 n ls vc hlen' h hvc hle hio hnt
    | nl =>
      simp only [ioEnd] at h
      exact ih x.2 y.2 n ls vc hlen' h hvc hle hio hnt
    | box t =>
      simp only [ioEnd] at h
      split at h
      · rename_i t' z0 hl
        split at h
        · rename_i z vc' hz hr
          cases h
          obtain ⟨e1, e2⟩ := castTy_some hz
          subst e1
          subst e2
          have hin : (n, l) ∈ cx.io := hio n l (by simp [ioList, PK.io])
          obtain ⟨i1, i2⟩ := ih x.2 y.2 (n + 1) ls vc' hlen' hr (fun p hp => hvc p (by simp [hp])) hle (fun r l' h => hio r l' (by simp [ioList, PK.io, h])) hnt
          have e : z0 = y.1 := hvc _ (by simp)
          have hφ := R.io n l hin (by rw [hl]; rfl)
          refine ⟨⟨⟨l, rfl, ?_⟩, i1⟩, ?_⟩
          · rw [← e, ← hφ]; exact hreg _ _ (hnh rfl) (R.rg n _ hl)
          · intro r l' h
            simp only [ioList, PK.io, if_true] at h
            rcases List.mem_cons.1 h with h | h
            · cases h; exact ⟨_, hl⟩
            · exact i2 r l' h
        · cases h
      · cases h
    | row t =>
      simp only [ioEnd] at h
      split at h
      · rename_i t' xs hl
        split at h
        · rename_i z vc' hz hr
          cases h
          obtain ⟨e1, e2⟩ := castTy_some hz
          cases e1
          subst e2
          have hin : (n, l) ∈ cx.io := hio n l (by simp [ioList, PK.io])
          obtain ⟨i1, i2⟩ := ih x.2 y.2 (n + 1) ls vc' hlen' hr (fun p hp => hvc p (by simp [hp])) (fun p hp => hle p (by simp [lenEnd, hp])) (fun r l' h => hio r l' (by simp [ioList, PK.io, h])) hnt
          have e : xs = y.1 := hvc _ (by simp)
          have hφ := R.io n l hin (by rw [hl]; rfl)
          refine ⟨⟨⟨l, rfl, ?_, hle _ (by simp [lenEnd])⟩, i1⟩, ?_⟩
          · rw [← e, ← hφ]; exact hreg _ _ (hnh rfl) (R.rg n _ hl)
          · intro r l' h
            simp only [ioList, PK.io, if_true] at h
            rcases List.mem_cons.1 h with h | h
            · cases h; exact ⟨_, hl⟩
            · exact i2 r l' h
        · cases h
      · cases h

theorem ioEnd_live {rs : Regs} : ∀ (ps : List PK) (y : outs ps) (n : Nat) (ls : List Loc) (vc : List Prop), ioEnd rs ps y n = some vc → ∀ r l, (r, l) ∈ ioList ps ls n → ∃ g, look rs r = some g
  | [], _, _, _, _, _, r, l, hm => by simp [ioList] at hm
  | _ :: _, _, _, [], _, _, r, l, hm => by simp [ioList] at hm
  | .v t :: ps, y, n, l0 :: ls, vc, h, r, l, hm => by
    simp only [ioEnd] at h
    exact ioEnd_live ps y.2 n ls vc h r l (by simpa [ioList, PK.io] using hm)
  | .nl :: ps, y, n, l0 :: ls, vc, h, r, l, hm => by
    simp only [ioEnd] at h
    exact ioEnd_live ps y.2 n ls vc h r l (by simpa [ioList, PK.io] using hm)
  | .box t :: ps, y, n, l0 :: ls, vc, h, r, l, hm => by
    simp only [ioEnd] at h
    split at h
    · rename_i hl
      split at h
      · rename_i hr
        simp only [ioList, PK.io, if_true] at hm
        rcases List.mem_cons.1 hm with hm | hm
        · cases hm; exact ⟨_, hl⟩
        · exact ioEnd_live ps y.2 (n + 1) ls _ hr r l hm
      · cases h
    · cases h
  | .row t :: ps, y, n, l0 :: ls, vc, h, r, l, hm => by
    simp only [ioEnd] at h
    split at h
    · rename_i hl
      split at h
      · rename_i hr
        simp only [ioList, PK.io, if_true] at hm
        rcases List.mem_cons.1 hm with hm | hm
        · cases hm; exact ⟨_, hl⟩
        · exact ioEnd_live ps y.2 (n + 1) ls _ hr r l hm
      · cases h
    · cases h

theorem blks_inj : ∀ {ls : List Loc} {i j : Nat} {l l' : Loc} {b : Nat}, (blks ls).Nodup → ls[i]? = some l → ls[j]? = some l' → l.blk = some b → l'.blk = some b → i = j
  | [], i, _, _, _, _, _, h, _, _, _ => by simp at h
  | l0 :: ls, i, j, l, l', b, hn, hi, hj, h1, h2 => by
    have hmem : ∀ {k : Nat} {l : Loc}, ls[k]? = some l → l.blk = some b → b ∈ blks ls := fun hk hb => List.mem_filterMap.2 ⟨_, List.mem_of_getElem? hk, hb⟩
    have hn' : (blks ls).Nodup ∧ (l0.blk = some b → b ∉ blks ls) := by
      simp only [blks, List.filterMap_cons] at hn
      split at hn
      · rename_i e; exact ⟨hn, fun e' => by rw [e] at e'; cases e'⟩
      · rename_i b' e
        have := List.nodup_cons.1 hn
        exact ⟨this.2, fun e' => by rw [e] at e'; cases e'; exact this.1⟩
    cases i with
    | zero =>
      simp only [List.getElem?_cons_zero, Option.some.injEq] at hi
      subst hi
      cases j with
      | zero => rfl
      | succ j => exact ((hn'.2 h1) (hmem (by simpa using hj) h2)).elim
    | succ i =>
      cases j with
      | zero =>
        simp only [List.getElem?_cons_zero, Option.some.injEq] at hj
        subst hj
        exact ((hn'.2 h2) (hmem (by simpa using hi) h1)).elim
      | succ j => exact congrArg (· + 1) (blks_inj (ls := ls) hn'.1 (by simpa using hi) (by simpa using hj) h1 h2)

theorem fun_sound {E : Env} (hE : EnvOK E) {f : FuncId} {fn : Func} {c : Code} {ts : List ResAt} (S : Summ) (hf : E.P.funcs[f]? = some fn) (hb : fn.body = some c) (hts : resTmps fn = ts)
    (hnio : E.nio = ioCount S.par) (hpl : plainS S = true) (hl : loopsAll E (loopList c 0)) (h : ∀ x, S.pre x → awp E c 0 (fin E.P S x ts E.nio) (initSt S.par x fn.ntmps)) : SumOK E.P f S := by
  intro x args ls w ok okO hpre hps hnd hdis
  have hlsl := PsRel.length _ _ _ _ hps
  let cx : Cx := { P := E.P, B := w.heap.size, w0 := w, io := ioList S.par ls 0, ro := fun b => ok b ∨ okO b }
  have hown : ∀ b, cx.own b ↔ b ∈ blks (ioLocs S.par ls) := by
    intro b
    rw [← ioList_locs S.par ls 0]
    simp only [Cx.own, blks, List.mem_filterMap, List.mem_map]
    constructor
    · rintro ⟨r, l, h1, h2⟩; exact ⟨l, ⟨(r, l), h1, rfl⟩, h2⟩
    · rintro ⟨l, ⟨⟨r, l'⟩, h1, rfl⟩, h2⟩; exact ⟨r, l', h1, h2⟩
  let φ : Phi := ⟨fun r => (ioLocs S.par ls).getD r ⟨none, 0, 0⟩, fun b => cx.B ≤ b ∨ cx.own b ∨ cx.ro b⟩
  let st0 := initSt S.par x fn.ntmps
  have hφio : ∀ r l, (r, l) ∈ cx.io → φ r = l := fun r l hm => by
    have := (ioList_get _ _ _ _ _ hm).2.2
    show (ioLocs S.par ls).getD r _ = l
    simp at this
    simp [this]
  have hregs : ∀ r g, look st0.regs r = some g → ∃ l, (ioLocs S.par ls)[r]? = some l ∧ φ r = l := by
    intro r g hg
    have h1 := init_rel (ok := ok) (okO := okO) (okk := fun b => ok b ∨ okO b) (φ := φ) (w := w) (fun b o h1 h2 => ⟨.inl h1, h2⟩) (fun b o h1 h2 => ⟨.inr h1, h2⟩) S.par x args ls 0 st0.regs hps
      (fun k l hk => by show (ioLocs S.par ls).getD (0 + k) _ = l; simp [hk]) (fun _ _ => rfl)
    obtain ⟨_, l, h2, h3⟩ := h1.2.2.1 r g hg
    exact ⟨l, by simpa using (ioList_get _ _ _ _ _ h2).2.2, h3⟩
  have hok : ∀ b, (ok b ∨ okO b) → okOf st0.regs φ b := by
    intro b hb2
    refine ⟨fun r g hg hbl => ?_, .inr (.inr hb2)⟩
    obtain ⟨l, h1, h2⟩ := hregs r g hg
    have := hdis b (List.mem_filterMap.2 ⟨l, List.mem_of_getElem? h1, by rw [← h2]; exact hbl⟩)
    rcases hb2 with h3 | h3
    · exact this.1 h3
    · exact this.2 h3
  obtain ⟨k1, k2, k3, k4⟩ := init_rel (ok := ok) (okO := okO) (okk := okOf st0.regs φ) (φ := φ) (w := w) (fun b o h1 h2 => ⟨hok b (.inl h1), h2⟩) (fun b o h1 h2 => ⟨hok b (.inr h1), h2⟩) S.par x args ls 0 st0.regs hps
      (fun k l hk => by show (ioLocs S.par ls).getD (0 + k) _ = l; simp [hk]) (fun _ _ => rfl)
  have hTl : (initT S.par x 0).length = S.par.length := by
    have : ∀ (ps : List PK) (x : dens ps) n, (initT ps x n).length = ps.length := by
      intro ps
      induction ps with
      | nil => intro x n; rfl
      | cons p ps ih => intro x n; cases p <;> simp [initT, ih]
    exact this _ _ _
  let a0 : Act := { tmps := args.toArray ++ Array.replicate (fn.ntmps - args.toArray.size) undef, defers := [] }
  have R0 : RelF cx φ st0 a0 w := by
    refine ⟨?_, rfl, ?_, ?_, ?_, ?_, ?_, Kept.refl _ _ _, Nat.le_refl _, fun b => Iff.rfl⟩
    · have hl9 : args.length = S.par.length := by rw [← k1, hTl]
      simp [a0, st0, initSt, hTl, hl9]
    · intro i av hi
      simp only [st0, initSt] at hi
      rw [List.getElem?_append] at hi
      split at hi
      · rename_i hlt
        have := k2 i av hi
        have hlt' : i < args.length := by rw [← k1]; exact hlt
        have e : a0.tmps.getD i undef = args.getD i undef := by
          simp [a0, Array.getElem?_append, hlt']
        rw [e]; exact this
      · rw [List.getElem?_replicate] at hi
        split at hi
        · cases hi; trivial
        · cases hi
    · intro r g hg
      exact (k3 r g hg).1
    · intro r r' g g' b h1 h2 h3 h4
      obtain ⟨l, e1, e2⟩ := hregs r g h1
      obtain ⟨l', e3, e4⟩ := hregs r' g' h2
      exact blks_inj hnd e1 e3 (e2 ▸ h3) (e4 ▸ h4)
    · intro r g b h1 h2
      obtain ⟨l, e1, e2⟩ := hregs r g h1
      exact .inr ((hown b).2 (List.mem_filterMap.2 ⟨l, List.mem_of_getElem? e1, by rw [← e2]; exact h2⟩))
    · intro r l h1 _; exact hφio r l h1
  have hF0 : FreshFrom cx st0 st0.next := by
    intro m hm
    have hm' : ioCount S.par ≤ m := hm
    refine ⟨⟨?_, ?_⟩, ?_⟩
    · cases hl : look st0.regs m with
      | none => rfl
      | some g => have := (initR_look _ _ _ _ _ hl).2; omega
    · intro av hav hmen
      simp only [st0, initSt, List.mem_append, List.mem_replicate] at hav
      rcases hav with hav | ⟨_, rfl⟩
      · obtain ⟨i, hi⟩ := List.mem_iff_getElem?.1 hav
        have := AV.ltB_spec (k4 i av hi) hmen
        omega
      · exact hmen
    · intro l hl
      have := (ioList_get _ _ _ _ _ hl).2.1
      omega
  refine calls_of_wp hf hb ?_
  refine awp_sound hE (cx := cx) rfl (fun r l hm => by rw [hnio]; have := (ioList_get _ _ _ _ _ hm).2.1; omega) c 0 _ st0 a0 w _ hl (h x hpre) ⟨⟨φ, R0⟩, hF0⟩ ?_
  intro e st' a' w' hfin RN
  obtain ⟨⟨φ', R⟩, _⟩ := RN
  have main : (match getS E.P st'.regs st'.tmps ts with
    | some vs => match resEnd st'.regs S.res (S.fn x).1 vs, ioEnd st'.regs S.par (S.fn x).2 0 with
      | some (vc, ids, ds), some vc2 => if nodupB ids && ids.all (fun r => decide (E.nio ≤ r) && !ds.contains r) && ds.all (fun r => decide (E.nio ≤ r)) then andAll (vc ++ vc2 ++ lenEnd S.par x (S.fn x).2) True else False
      | _, _ => False
    | none => False) → bodyPost E.P fn (fun e w' => ∃ (vs : List Value) (rl : List Loc), e = .returned (retVal vs) ∧
      Kept (fun b => b ∈ blks (ioLocs S.par ls)) w.heap.size w w' ∧
      RsRel (fun b => (w.heap.size ≤ b ∧ b ∉ blks (freshLocs S.res rl)) ∨ (S.esc = true ∧ (ok b ∨ okO b) ∧ b < w.heap.size)) w' S.res (S.fn x).1 vs rl ∧
      (blks (freshLocs S.res rl)).Nodup ∧ (∀ b ∈ blks (freshLocs S.res rl), w.heap.size ≤ b) ∧
      OutRel (fun b => (w.heap.size ≤ b ∧ b ∉ blks (freshLocs S.res rl)) ∨ (S.esc = true ∧ ok b ∧ b < w.heap.size) ∨ (okO b ∧ b < w.heap.size)) w' S.par x (S.fn x).2 ls) .normal a' w' := by
    intro hm
    split at hm
    · rename_i vs hvs
      split at hm
      · rename_i vc ids ds vc2 hres hioe
        split at hm
        · rename_i hc
          obtain ⟨hvc, _⟩ := andAll_spec hm
          simp only [Bool.and_eq_true, List.all_eq_true, decide_eq_true_eq, Bool.not_eq_true', List.contains_eq_mem, decide_eq_false_iff_not] at hc
          obtain ⟨⟨c1, c2⟩, c3⟩ := hc
          have hnod := nodupB_spec c1
          obtain ⟨Vs, hVs, hall⟩ := getS_sound R ts vs hvs
          refine ⟨R.df, _, run_results (hts ▸ hVs), ?_⟩
          -- after giving up
          have R2 := R.dels ds
          have hpl' : S.esc = true ∨ (S.res.all (fun k => k.ty.noRo) = true ∧ S.par.all (fun p => !p.io || p.ty.noRo) = true) := by
            unfold plainS at hpl
            simp only [Bool.or_eq_true, Bool.and_eq_true] at hpl
            exact hpl
          have hioSet : ∀ r l, (r, l) ∈ ioList S.par ls 0 → r < E.nio := fun r l hm => by rw [hnio]; have := (ioList_get _ _ _ _ _ hm).2.1; omega
          have hlive := ioEnd_live S.par (S.fn x).2 0 ls vc2 hioe
          have hnoown : ∀ b, okOf st'.regs φ' b → ¬ cx.own b := by
            rintro b hb ⟨r, l, h1, h2⟩
            obtain ⟨g, hg⟩ := hlive r l h1
            exact hb.1 r g hg (by rw [R.io r l h1 (by rw [hg]; rfl)]; exact h2)
          have hnoown2 : ∀ b, okOf (dels st'.regs ds) φ' b → ¬ cx.own b := by
            rintro b hb ⟨r, l, h1, h2⟩
            obtain ⟨g, hg⟩ := hlive r l h1
            refine hb.1 r g ?_ (by rw [R.io r l h1 (by rw [hg]; rfl)]; exact h2)
            rw [look_dels, if_neg (fun hd => by have := c3 r hd; have := hioSet r l h1; omega)]
            exact hg
          have hlow : ∀ b, φ'.base b → ¬ cx.own b → w.heap.size ≤ b ∨ ((ok b ∨ okO b) ∧ b < w.heap.size) := by
            intro b hb hno
            rcases Nat.lt_or_ge b w.heap.size with h1 | h1
            · rcases (R.bs b).1 hb with h2 | h2 | h2
              · exact .inl h2
              · exact (hno h2).elim
              · exact .inr ⟨h2, h1⟩
            · exact .inl h1
          -- the results
          obtain ⟨_, _, _, hlv⟩ := resEnd_sound R ds true (tgt := okOf (dels st'.regs ds) φ') (fun _ _ h => h) S.res (S.fn x).1 vs _ vc ids ds hres (fun p hp => hvc p (by simp [hp])) (fun _ h => h) (.inl rfl) hall
          have hids : ∀ b ∈ blks (ids.map φ'), ∃ r ∈ ids, (φ' r).blk = some b := by
            intro b hb
            simp only [blks, List.mem_filterMap, List.mem_map] at hb
            obtain ⟨l, ⟨r, h1, rfl⟩, h2⟩ := hb
            exact ⟨r, h1, h2⟩
          have hnf : ∀ b, okOf st'.regs φ' b → b ∉ blks (ids.map φ') := by
            intro b hb hm
            obtain ⟨r, h1, h2⟩ := hids b hm
            obtain ⟨g, hg⟩ := hlv r h1
            exact hb.1 r g hg h2
          have hnf2 : ∀ b, okOf (dels st'.regs ds) φ' b → b ∉ blks (ids.map φ') := by
            intro b hb hm
            obtain ⟨r, h1, h2⟩ := hids b hm
            obtain ⟨g, hg⟩ := hlv r h1
            exact hb.1 r g (by rw [look_dels, if_neg (c2 r h1).2]; exact hg) h2
          obtain ⟨rl, r1, r2, _⟩ := resEnd_sound R ds S.esc (tgt := fun b => (w.heap.size ≤ b ∧ b ∉ blks (ids.map φ')) ∨ (S.esc = true ∧ (ok b ∨ okO b) ∧ b < w.heap.size)) (fun he b hb => by
              rcases hlow b hb.2 (hnoown2 b hb) with h1 | h1
              · exact .inl ⟨h1, hnf2 b hb⟩
              · exact .inr ⟨he, h1⟩) S.res (S.fn x).1 vs _ vc ids ds hres (fun p hp => hvc p (by simp [hp])) (fun _ h => h) (hpl'.imp id And.left) hall
          obtain ⟨o1, _⟩ := ioEnd_sound R S.esc (tgt := fun b => (w.heap.size ≤ b ∧ b ∉ blks (ids.map φ')) ∨ (S.esc = true ∧ ok b ∧ b < w.heap.size) ∨ (okO b ∧ b < w.heap.size)) (fun he b hb => by
              rcases hlow b hb.2 (hnoown b hb) with h1 | ⟨h1 | h1, h2⟩
              · exact .inl ⟨h1, hnf b hb⟩
              · exact .inr (.inl ⟨he, h1, h2⟩)
              · exact .inr (.inr ⟨h1, h2⟩)) S.par x (S.fn x).2 0 ls vc2 hlsl hioe (fun p hp => hvc p (by simp [hp])) (fun p hp => hvc p (by simp [hp])) (fun _ _ h => h) (hpl'.imp id And.right)
          refine ⟨_, rl, rfl, ?_, ?_, ?_, ?_, ?_⟩
          · have hk := R.kp
            exact ⟨hk.os, hk.tape, hk.output, hk.size, fun k h1 h2 => hk.block k h1 (fun h3 => h2 ((hown k).1 h3))⟩
          · rw [r2]; exact r1
          · rw [r2]; exact blk_nodup R ids hnod hlv
          · rw [r2]
            intro b hb
            obtain ⟨r, h1, h2⟩ := hids b hb
            obtain ⟨g, hg⟩ := hlv r h1
            rcases R.fr r g b hg h2 with h3 | ⟨r', l', h3, h4⟩
            · exact h3
            · exfalso
              obtain ⟨g', hg'⟩ := hlive r' l' h3
              have h5 := R.io r' l' h3 (by rw [hg']; rfl)
              have := R.sep r r' g g' b hg hg' h2 (by rw [h5]; exact h4)
              have h6 := (c2 r h1).1
              have h7 := hioSet r' l' h3
              omega
          · rw [r2]; exact o1
        · exact hm.elim
      · exact hm.elim
    · exact hm.elim
  cases e with
  | normal => exact main hfin
  | exit id => exact hfin.elim
  | ret => exact main hfin

end Go.Lift
/- Small words for the functions' texts. -/
namespace Go.Lift
open Go
noncomputable def bodyOf (f : Func) : Code := f.body.getD .skip
noncomputable def loopAt (c : Code) (b : Nat) : Code := match (loopList c 0).find? (fun p => p.1 == b) with
  | some p => p.2
  | none => .skip
theorem body_some {f : Func} (h : f.body.isSome = true) : f.body = some (bodyOf f) := by
  unfold bodyOf
  cases hb : f.body with
  | none => rw [hb] at h; cases h
  | some c => rfl
def sumsOf : List (Nat × Summ) → Nat → Option Summ
  | [], _ => none
  | (k, S) :: l, f => if k = f then some S else sumsOf l f
theorem sumsOf_ok {P : Program} : ∀ {l : List (Nat × Summ)}, (∀ p ∈ l, SumOK P p.1 p.2) → ∀ f S, sumsOf l f = some S → SumOK P f S
  | [], _, _, _, h => nomatch h
  | (k, S0) :: l, hl, f, S, h => by
    unfold sumsOf at h
    split at h
    · rename_i e
      cases h
      subst e
      exact hl (k, S0) (List.mem_cons_self ..)
    · exact sumsOf_ok (fun p hp => hl p (List.mem_cons_of_mem _ hp)) f S h
def u (n : Nat) : List Slot := List.replicate n .u
def un (n : Nat) : List AV := List.replicate n (.s .undef)
theorem condP_iff {c : Bool} {p q : Prop} : condP c p q ↔ (c = true → p) ∧ (c = false → q) := ⟨fun h => ⟨h.t, h.f⟩, fun h => ⟨h.1, h.2⟩⟩
theorem condP_t {c : Bool} {p q : Prop} (h : c = true) : condP c p q ↔ p := ⟨fun k => k.t h, fun k => ⟨fun _ => k, fun e => by rw [h] at e; cases e⟩⟩
theorem condP_f {c : Bool} {p q : Prop} (h : c = false) : condP c p q ↔ q := ⟨fun k => k.f h, fun k => ⟨fun e => (by rw [h] at e; cases e), fun _ => k⟩⟩
theorem drop_cons {α : Type} (l : List α) (i : Nat) (d : α) (h : i < l.length) : l.drop i = l.getD i d :: l.drop (i + 1) := by
  rw [List.drop_eq_getElem_cons h, List.getD_eq_getElem?_getD, List.getElem?_eq_getElem h]; rfl
end Go.Lift
/- What a law's arguments read as. -/
namespace Go.Lift
open Go Go.ChangeShapes Go.WideShapes Go.RowKit
/-- In the bounds that data have. -/
def Ty.wfd : (t : Ty) → t.den → Prop
  | .int k, x => (Lit.int k x).wf = true
  | .bool, _ => True
  | .unit, _ => True
  | .str, s => (ByteArray.size s : Int) ≤ 140737488351232
  | .ro t, xs => (List.length xs : Int) ≤ 140737488351232 ∧ ∀ x ∈ (xs : List t.den), t.wfd x
  | .pair a b, x => a.wfd x.1 ∧ b.wfd x.2
  | .arr n t, xs => List.length xs = n ∧ ∀ x ∈ (xs : List t.den), t.wfd x
/-- Is a type of the program laid as its shape says? -/
def layF (f : TypeId → Bool) (ty : TypeId → Option Ty) (P : Program) : Nat → List Field → Bool
  | _, [] => true
  | off, x :: xs => match ty x.type with
    | some τ => decide (x.offset = off) && decide (P.cellsOf x.type = τ.sz) && f x.type && layF f ty P (off + τ.sz) xs
    | none => false
def layB (P : Program) : Nat → TypeId → Bool
  | 0, _ => false
  | n + 1, t => match P.underlying t with
    | some (.int _) => true
    | some .bool => true
    | some .string => true
    | some (.slice e) => match tyOf P n e with
      | some τ => layB P n e && decide (P.cellsOf e = τ.sz) && decide (1 ≤ τ.sz) && decide (1 ≤ P.bytesOf e)
      | none => false
    | some (.array m e) => match tyOf P n e with
      | some τ => layB P n e && decide (P.cellsOf e = τ.sz) && decide (P.cellsOf t = m * τ.sz)
      | none => false
    | some (.struct fs) => match tyFields (tyOf P n) fs.toList with
      | some τ => layF (layB P n) (tyOf P n) P 0 fs.toList && decide (P.cellsOf t = τ.sz)
      | none => false
    | _ => false
theorem cells?_get {w : World} {base : Nat} {a : Addr} {n : Nat} {cs : List Value} (h : w.cells? base a n = some cs) : cs.length = n ∧ ∀ j, j < n → w.cell? (a.add j) = cs[j]? := by
  unfold World.cells? at h
  split at h
  · have hl := mapM_some_length h
    rw [List.length_range] at hl
    refine ⟨hl, fun j hj => ?_⟩
    exact mapM_some_get h j j (by simp [hj])
  · cases h
theorem addr_add {b o k : Nat} : (⟨b, o, none⟩ : Addr).add k = ⟨b, o + k, none⟩ := by
  unfold Addr.add
  split
  · rename_i h; rw [h]; rfl
  · rfl
theorem weights_all {H : Type} {P : Program} {e : TypeId} : ∀ {l : List (DataW H)} {B : Nat}, (∀ m ∈ DataW.weightsAll P e l, m ≤ B) → ∀ d ∈ l, ∀ m ∈ d.weights P e, m ≤ B
  | [], _, _, d, hd => by simp at hd
  | d0 :: l, B, h, d, hd => by
    simp only [DataW.weightsAll, List.mem_append] at h
    rcases List.mem_cons.1 hd with rfl | hd
    · exact fun m hm => h m (.inl hm)
    · exact weights_all (fun m hm => h m (.inr hm)) d hd
theorem choose_list {α : Type} {Q : Nat → α → Prop} : ∀ (n : Nat), (∀ i, i < n → ∃ x, Q i x) → ∃ xs : List α, xs.length = n ∧ ∀ i (h : i < xs.length), Q i xs[i]
  | 0, _ => ⟨[], rfl, fun i h => by simp at h⟩
  | n + 1, h => by
    obtain ⟨xs, hl, hx⟩ := choose_list n fun i hi => h i (by omega)
    obtain ⟨x, hq⟩ := h n (by omega)
    refine ⟨xs ++ [x], by simp [hl], fun i hi => ?_⟩
    by_cases hi2 : i < xs.length
    · rw [List.getElem_append_left hi2]; exact hx i hi2
    · have : i = n := by simp at hi; omega
      subst this
      rw [List.getElem_append_right (by omega)]
      simpa [hl] using hq
section
variable {H : Type} {enc : TypeId × Value → H} {P : Program} {W : World} {base : Nat} {spare : Nat → Bool} {held : Bool}
abbrev okW (W : World) (b : Nat) : Prop := b < W.heap.size
def Reads (P : Program) (enc : TypeId × Value → H) (W : World) (base : Nat) (spare : Nat → Bool) (held : Bool) (t : TypeId) (τ : Ty) : Prop :=
  ∀ fuel cs d ps, DataW.trod enc P W base spare held fuel t cs = some (d, ps) → (∀ m ∈ d.weights P t, m ≤ reachBytes) →
    ∃ x : τ.den, τ.rd (okW W) W x (fun j => cs[j]?) ∧ cs.length = τ.sz ∧ τ.wfd x
theorem drop_take_get {cs : List Value} {o s j : Nat} (h : j < s) : ((cs.drop o).take s)[j]? = cs[o + j]? := by
  rw [List.getElem?_take, if_pos h, List.getElem?_drop]
theorem fields_read {n : Nat} (ih : ∀ t τ, tyOf P n t = some τ → layB P n t = true → Reads P enc W base spare held t τ) (cs : List Value) (m : Nat) :
    ∀ (fs : List Field) (τ : Ty) (off : Nat) (xs : List (DataW H × List MemPlace)), tyFields (tyOf P n) fs = some τ → layF (layB P n) (tyOf P n) P off fs = true → xs.length = fs.length →
    (∀ (i : Nat) f, fs[i]? = some f → DataW.trod enc P W base spare held m f.type ((cs.drop f.offset).take (P.cellsOf f.type)) = xs[i]?) →
    (∀ w ∈ DataW.weightsEach P (fs.map (·.type)) (xs.map (·.1)), w ≤ reachBytes) →
    ∃ x : τ.den, τ.rd (okW W) W x (fun j => cs[off + j]?) ∧ τ.wfd x
  | [], τ, off, xs, ht, _, _, _, _ => by
    simp only [tyFields, Option.some.injEq] at ht
    subst ht
    exact ⟨(), trivial, trivial⟩
  | f :: fs, τ, off, xs, ht, hl, hlen, hx, hw => by
    simp only [tyFields] at ht
    split at ht
    · rename_i a b ha hb
      cases ht
      unfold layF at hl
      rw [ha] at hl
      simp only [Bool.and_eq_true, decide_eq_true_eq] at hl
      obtain ⟨⟨⟨h1, h2⟩, h3⟩, h4⟩ := hl
      cases xs with
      | nil => simp at hlen
      | cons y ys =>
        have hy := hx 0 f rfl
        simp only [List.getElem?_cons_zero] at hy
        obtain ⟨d, ps⟩ := y
        simp only [List.map_cons, DataW.weightsEach, List.mem_append] at hw
        obtain ⟨u, u1, u2, u3⟩ := ih _ _ ha h3 _ _ _ _ hy fun w hm => hw w (.inl hm)
        obtain ⟨v, v1, v3⟩ := fields_read ih cs m fs b (off + a.sz) ys hb h4 (by simpa using hlen) (fun i f' hf => by simpa using hx (i + 1) f' (by simpa using hf)) (fun w hm => hw w (.inr hm))
        refine ⟨(u, v), ⟨?_, ?_⟩, u3, v3⟩
        · refine Ty.rd_congr _ _ _ _ (fun j hj => ?_) u1
          rw [h1, h2]
          exact drop_take_get hj
        · refine Ty.rd_congr _ _ _ _ (fun j hj => ?_) v1
          simp only [Nat.add_assoc]
    · cases ht
theorem reads : ∀ (n : Nat) (t : TypeId) (τ : Ty), tyOf P n t = some τ → layB P n t = true → Reads P enc W base spare held t τ
  | 0, t, τ, h, _ => by simp [tyOf] at h
  | n + 1, t, τ, h, hl => by
    intro fuel cs d ps htr hw
    have ih := reads n
    unfold tyOf at h
    unfold layB at hl
    cases hu : P.underlying t with
    | none => rw [hu] at h; cases h
    | some D =>
      rw [hu] at h hl
      cases D with
      | int k =>
        cases h
        obtain ⟨x, rfl, _, hwf⟩ := DataW.trod_int hu htr
        exact ⟨x, rfl, rfl, hwf⟩
      | bool =>
        cases h
        obtain ⟨x, rfl, _⟩ := DataW.trod_bool hu htr
        exact ⟨x, rfl, rfl, trivial⟩
      | string =>
        cases h
        obtain ⟨x, rfl, hd, _⟩ := DataW.trod_string hu htr
        refine ⟨x, rfl, rfl, ?_⟩
        cases hd
        have := hw x.data.toList.length (by simp [DataW.weights])
        have e : x.data.toList.length = x.size := by simp
        unfold reachBytes at this
        show (x.size : Int) ≤ _
        omega
      | slice e =>
        simp only [Option.map_eq_some_iff] at h
        obtain ⟨σ, hσ, rfl⟩ := h
        simp only [hσ, Bool.and_eq_true, decide_eq_true_eq] at hl
        obtain ⟨⟨⟨l1, l2⟩, l3⟩, l4⟩ := hl
        rcases DataW.trod_slice hu htr with ⟨rfl, _⟩ | ⟨a, len, cap, elems, rest, m, rfl, rfl, hx, hb, h1, h2, h3, h4, _⟩
        · exact ⟨([] : List σ.den), ⟨none, 0, rfl, Nat.le_refl _, .inl rfl⟩, rfl, by simp, fun _ h => by simp at h⟩
        · cases hx
          simp only [DataW.weights, hu, List.mem_cons, List.mem_append] at hw
          have hlen := hw _ (.inl rfl)
          have hwe : ∀ d ∈ elems.map (·.1), ∀ m ∈ d.weights P e, m ≤ reachBytes := weights_all fun m hm => hw m (.inr (.inl hm))
          have each : ∀ i, i < len → ∃ x : σ.den, (∃ ccs, W.cells? base (a.add (i * P.cellsOf e)) (P.cellsOf e) = some ccs ∧ σ.rd (okW W) W x (fun j => ccs[j]?)) ∧ σ.wfd x := by
            intro i hi
            have hq := h4 i hi
            have hi2 : i < elems.length := by omega
            rw [List.getElem?_eq_getElem hi2, Option.bind_eq_some_iff] at hq
            obtain ⟨ccs, c1, c2⟩ := hq
            obtain ⟨x, x1, _, x3⟩ := ih _ _ hσ l1 _ _ _ _ (show _ = some (elems[i].1, elems[i].2) from c2) (hwe _ (List.mem_map.2 ⟨_, List.getElem_mem hi2, rfl⟩))
            exact ⟨x, ⟨ccs, c1, x1⟩, x3⟩
          obtain ⟨xs, hxl, hxs⟩ := choose_list len each
          refine ⟨xs, ⟨some a, cap, by rw [hxl]; rfl, by rw [hxl]; exact h1, ?_⟩, rfl, ?_, fun x hx => ?_⟩
          · by_cases h0 : xs = []
            · exact .inl h0
            · right
              have hpos : 0 < len := by rw [← hxl]; exact List.length_pos_iff.2 h0
              have hcell : ∃ v, W.cell? a = some v := by
                obtain ⟨⟨ccs, c1, _⟩, _⟩ := hxs 0 (by omega)
                rw [l2] at c1
                obtain ⟨g1, g2⟩ := cells?_get c1
                have := g2 0 (by omega)
                rw [List.getElem?_eq_getElem (by omega)] at this
                exact ⟨ccs[0]'(by omega), by simpa [Addr.add] using this⟩
              obtain ⟨v0, hv0⟩ := hcell
              obtain ⟨ab, ao, asp⟩ := a
              simp only [World.cell?] at hv0
              cases hh : W.heap[ab]? with
              | none => rw [hh] at hv0; cases hv0
              | some o =>
                cases o with
                | cells bs ty fz =>
                  rw [hh] at hv0
                  simp only at hv0
                  cases asp with
                  | some z => simp at hv0
                  | none =>
                    refine ⟨ab, ao, bs, ty, fz, rfl, ?_, hh, ?_⟩
                    · by_cases hlt : ab < W.heap.size
                      · exact hlt
                      · rw [Array.getElem?_eq_none (by omega)] at hh; cases hh
                    · intro i hi
                      obtain ⟨⟨ccs, c1, c3⟩, _⟩ := hxs i hi
                      rw [l2] at c1
                      obtain ⟨g1, g2⟩ := cells?_get c1
                      refine Ty.rd_congr _ _ _ _ (fun j hj => ?_) c3
                      have := g2 j hj
                      rw [addr_add, addr_add] at this
                      simp only [World.cell?, hh, Option.isSome_none, Bool.false_eq_true, if_false] at this
                      rw [← this]
                | _ => rw [hh] at hv0; cases hv0
          · simp only [List.length_map] at hlen
            have e1 : len ≤ (elems.length + rest.length) * P.bytesOf e := by
              rw [h3]
              exact Nat.le_trans (Nat.le_add_right _ _) (Nat.le_mul_of_pos_right _ l4)
            unfold reachBytes at hlen
            omega
          · obtain ⟨i, hi, rfl⟩ := List.mem_iff_getElem.1 hx
            exact (hxs i hi).2
      | array m e =>
        simp only [Option.map_eq_some_iff] at h
        obtain ⟨σ, hσ, rfl⟩ := h
        simp only [hσ, Bool.and_eq_true, decide_eq_true_eq] at hl
        obtain ⟨⟨l1, l2⟩, l3⟩ := hl
        obtain ⟨xs, k, rfl, hx, h1, h2, h3⟩ := DataW.trod_array hu htr
        cases hx
        simp only [DataW.weights, hu] at hw
        have hwe := weights_all hw
        have each : ∀ i, i < m → ∃ x : σ.den, σ.rd (okW W) W x (fun j => ((cs.drop (i * σ.sz)).take σ.sz)[j]?) ∧ σ.wfd x := by
          intro i hi
          have hq := h3 i hi
          rw [List.getElem?_eq_getElem (by omega), l2] at hq
          obtain ⟨x, x1, _, x3⟩ := ih _ _ hσ l1 _ _ _ _ (show _ = some ((xs[i]'(by omega)).1, (xs[i]'(by omega)).2) from hq) (hwe _ (List.mem_map.2 ⟨_, List.getElem_mem (by omega), rfl⟩))
          exact ⟨x, x1, x3⟩
        obtain ⟨ys, hyl, hys⟩ := choose_list m each
        refine ⟨ys, ⟨hyl, fun i hi => ?_⟩, by rw [h1, l3]; rfl, hyl, fun x hx => ?_⟩
        · exact Ty.rd_congr _ _ _ _ (fun j hj => drop_take_get hj) (hys i hi).1
        · obtain ⟨i, hi, rfl⟩ := List.mem_iff_getElem.1 hx
          exact (hys i hi).2
      | struct fs =>
        simp only at h hl
        rw [h] at hl
        simp only [Bool.and_eq_true, decide_eq_true_eq] at hl
        obtain ⟨l1, l2⟩ := hl
        obtain ⟨xs, k, rfl, hx, h1, h2, h3⟩ := DataW.trod_struct hu htr
        cases hx
        simp only [DataW.weights, hu] at hw
        obtain ⟨x, x1, x2⟩ := fields_read ih cs k fs.toList τ 0 xs h l1 (by simpa using h2) (fun i f hf => h3 i f (by simpa using hf)) hw
        exact ⟨x, by simpa using x1, by rw [h1, l2], x2⟩
      | _ => cases h
/-! ### a law's arguments -/
def wfs : (ps : List PK) → dens ps → Prop
  | [], _ => True
  | .v t :: ps, x => t.wfd x.1 ∧ wfs ps x.2
  | _ :: _, _ => False
def parsOK (P : Program) : List PK → List TypeId → Bool
  | [], [] => true
  | .v τ :: ps, t :: ts => decide (tyOf P 12 t = some τ) && layB P 12 t && P.readableRec t && decide (t < P.types.size) && parsOK P ps ts
  | _, _ => false
theorem agg_read {t : TypeId} {τ : Ty} {v : Value} (h : tyOf P 12 t = some τ) (hv : Value.okWide P W .any base t v) : Value.isAgg v = τ.agg := by
  unfold tyOf at h
  cases hu : P.underlying t with
  | none => rw [hu] at h; cases h
  | some D =>
    rw [hu] at h
    cases D with
    | int k => cases h; obtain ⟨n, rfl⟩ := okWide_int hu hv; rfl
    | bool => cases h; obtain ⟨n, rfl⟩ := okWide_bool hu hv; rfl
    | string => cases h; obtain ⟨n, rfl⟩ := okWide_string hu hv; rfl
    | slice e =>
      simp only [Option.map_eq_some_iff] at h
      obtain ⟨σ, _, rfl⟩ := h
      obtain ⟨a, l, c, rfl⟩ := okWide_slice hu hv; rfl
    | array m e =>
      simp only [Option.map_eq_some_iff] at h
      obtain ⟨σ, _, rfl⟩ := h
      simp only [Value.okWide, hu] at hv
      obtain ⟨cs, rfl, _⟩ := hv; rfl
    | struct fs =>
      simp only at h
      simp only [Value.okWide, hu] at hv
      obtain ⟨cs, rfl, _⟩ := hv
      cases hf : fs.toList with
      | nil => rw [hf] at h; simp only [tyFields, Option.some.injEq] at h; subst h; rfl
      | cons f l =>
        rw [hf] at h
        simp only [tyFields] at h
        split at h
        · cases h; rfl
        · cases h
    | _ => cases h
theorem args_read {b2 : Nat} (ok okO : Nat → Prop) (hok : ∀ b, b < W.heap.size → ok b) : ∀ (ps : List PK) (ts : List TypeId) (vs : List Value) (ds : List (DataW H)) (q : List MemPlace), parsOK P ps ts = true → DataW.TrodAll enc P W base spare held ts vs ds q →
    (∀ (j : Nat) t v, ts[j]? = some t → vs[j]? = some v → Value.okWide P W .any b2 t v) → (∀ m ∈ DataW.weightsEach P ts ds, m ≤ reachBytes) →
    ∃ (x : dens ps) (ls : List Loc), PsRel ok okO W ps x vs ls ∧ wfs ps x ∧ ioLocs ps ls = []
  | [], [], vs, ds, q, _, hA, _, _ => by
    obtain ⟨rfl, rfl, rfl⟩ := trodAll_nil hA
    exact ⟨(), [], ⟨rfl, rfl⟩, trivial, rfl⟩
  | .v τ :: ps, t :: ts, vs, ds, q, hp, hA, hv, hw => by
    simp only [parsOK, Bool.and_eq_true, decide_eq_true_eq] at hp
    obtain ⟨⟨⟨⟨p1, p2⟩, _⟩, _⟩, p3⟩ := hp
    obtain ⟨v, vs, d, ds, p, q', rfl, rfl, rfl, h0, hA'⟩ := trodAll_cons hA
    simp only [DataW.weightsEach, List.mem_append] at hw
    obtain ⟨fuel, hf⟩ := h0
    obtain ⟨x, x1, x2, x3⟩ := reads 12 t τ p1 p2 _ _ _ _ hf fun m hm => hw m (.inl hm)
    obtain ⟨y, ls, y1, y2, y3⟩ := args_read ok okO hok ps ts vs ds q' p3 hA' (fun j t v h1 h2 => hv (j + 1) t v (by simpa using h1) (by simpa using h2)) fun m hm => hw m (.inr hm)
    refine ⟨(x, y), ⟨none, 0, 0⟩ :: ls, ⟨v, vs, _, ls, rfl, rfl, ⟨?_, by simpa using x2, agg_read p1 (hv 0 t v rfl rfl)⟩, y1⟩, ⟨x3, y2⟩, by simpa [ioLocs, PK.io] using y3⟩
    refine Ty.rd_mono (fun b o h1 h2 => ⟨hok b h1, h2⟩) _ _ _ (Ty.rd_congr _ _ _ _ (fun j _ => ?_) x1)
    simp
  | [], _ :: _, _, _, _, hp, _, _, _ => by cases hp
  | .v _ :: _, [], _, _, _, hp, _, _, _ => by cases hp
  | .box _ :: _, _, _, _, _, hp, _, _, _ => by cases hp
  | .nl :: _, _, _, _, _, hp, _, _, _ => by cases hp
  | .row _ :: _, _, _, _, _, hp, _, _, _ => by cases hp
theorem args_stay (hl : laidOutB P = true) {W' : World} (hb : Below W.heap.size W W') : ∀ (ps : List PK) (ts : List TypeId) (vs : List Value) (ds : List (DataW H)) (q : List MemPlace), parsOK P ps ts = true → DataW.TrodAll enc P W 0 (fun _ => true) true ts vs ds q →
    DataW.TrodAll enc P W' 0 (fun b => decide (b < W.heap.size)) true ts vs ds q
  | [], [], vs, ds, q, _, hA => by
    obtain ⟨rfl, rfl, rfl⟩ := trodAll_nil hA
    exact trodAll_mk0
  | .v τ :: ps, t :: ts, vs, ds, q, hp, hA => by
    simp only [parsOK, Bool.and_eq_true, decide_eq_true_eq] at hp
    obtain ⟨⟨⟨⟨p1, p2⟩, p4⟩, p5⟩, p3⟩ := hp
    obtain ⟨v, vs, d, ds, p, q', rfl, rfl, rfl, h0, hA'⟩ := trodAll_cons hA
    have lt0 : ∀ x ∈ p, x.block < W.heap.size := by obtain ⟨m, hm⟩ := h0; exact DataW.trod_lt m _ _ _ hm
    exact trodAll_cons_mk (Below.trod hl p4 p5 h0 hb lt0) (args_stay hl hb ps ts vs ds q' p3 hA')
  | [], _ :: _, _, _, _, hp, _ => by cases hp
  | .v _ :: _, [], _, _, _, hp, _ => by cases hp
  | .box _ :: _, _, _, _, _, hp, _ => by cases hp
  | .nl :: _, _, _, _, _, hp, _ => by cases hp
  | .row _ :: _, _, _, _, _, hp, _ => by cases hp
end
/-- What a law that is told comes to. -/
theorem law_calls {H : Type} {enc : TypeId × Value → H} {P : Program} {f : FuncId} {S : Summ} (hS : SumOK P f S) (hres : S.res = [.v .bool]) (hfn : ∀ x, (S.fn x).1 = hres ▸ ((true, ()) : rdens [.v .bool]))
    {W : World} {b2 : Nat} {ts : List TypeId} {vs : List Value} {ds : List (DataW H)} {q : List MemPlace} (hpar : parsOK P S.par ts = true) (hA : DataW.TrodAll enc P W 0 (fun _ => true) true ts vs ds q)
    (hv : ∀ (j : Nat) t v, ts[j]? = some t → vs[j]? = some v → Value.okWide P W .any b2 t v) (hw : ∀ m ∈ DataW.weightsEach P ts ds, m ≤ reachBytes) (hpre : ∀ x, wfs S.par x → S.pre x) :
    Calls P f vs.toArray W fun e W' => e = .returned (.bool true) ∧ Below W.heap.size W W' := by
  obtain ⟨x, ls, h1, h2, h3⟩ := args_read (okW W) (fun _ => False) (fun _ h => h) S.par ts vs ds q hpar hA hv hw
  refine (hS x vs ls W _ _ (hpre x h2) h1 (by rw [h3]; simp [blks]) (by rw [h3]; simp [blks])).mono fun e W' h => ?_
  obtain ⟨rs, rl, rfl, hk, hr, _⟩ := h
  obtain ⟨par, res, esc, pre, fn⟩ := S
  simp only at hres
  subst hres
  simp only at hr hfn
  rw [hfn] at hr
  obtain ⟨v, vs', l, ls', rfl, rfl, hv, rfl, rfl⟩ := hr
  have := VRel.bool_eq hv
  refine ⟨by simp [retVal, this], ⟨hk.os, hk.tape, hk.output, hk.size, fun k hk2 => hk.block k hk2 ?_⟩⟩
  rw [h3]
  simp [blks]
end Go.Lift
