/- A call told by a summary: abstract, and that it tells what the machine does. -/
import Derived.Test.YtfkedbncidahjaaL15
set_option linter.unusedVariables false
set_option linter.unusedSimpArgs false
namespace Go.Lift
open Go

/-- A value handed in to be read. -/
def readV (rs : Regs) (esc : Bool) (v : SV) (t : Ty) : Option (t.den × Option Nat) :=
  match v with
  | .val u y => (castTy u t y).map fun z => (z, none)
  | .nilsl => match t with
    | .ro τ => some (([] : List τ.den), none)
    | _ => none
  | .sl r => if esc = true then none else match t with
    | .ro τ => match look rs r with
      | some (.row τ' xs) => (castTy (.ro τ') (.ro τ) xs).map fun z => (z, some r)
      | _ => none
    | _ => none
  | _ => none

/-- The parameters bound: what they hold, what must hold, the regions that may be written, those that are only read. -/
def bindP (rs : Regs) (esc : Bool) : (ps : List PK) → List SV → Option (dens ps × List Prop × List Nat × List Nat)
  | [], [] => some ((), [], [], [])
  | .v t :: ps, v :: vs => match readV rs esc v t, bindP rs esc ps vs with
    | some (y, b), some (x, vc, io, bo) => some ((y, x), vc, io, b.toList ++ bo)
    | _, _ => none
  | .box t :: ps, .addr r [] :: vs => match look rs r with
    | some (.box t' y) => match castTy t' t y, bindP rs esc ps vs with
      | some y, some (x, vc, io, bo) => some ((y, x), vc, r :: io, bo)
      | _, _ => none
    | some (.obox t' o) => match castTy t' t (o.getD t'.dflt), bindP rs esc ps vs with
      | some y, some (x, vc, io, bo) => some ((y, x), (o.isSome = true) :: vc, r :: io, bo)
      | _, _ => none
    | _ => none
  | .row t :: ps, .sl r :: vs => match look rs r with
    | some (.row t' ys) => match castTy (.ro t') (.ro t) ys, bindP rs esc ps vs with
      | some y, some (x, vc, io, bo) => some (((y : List t.den), x), vc, r :: io, bo)
      | _, _ => none
    | _ => none
  | _, _ => none

def ioRegs : (ps : List PK) → outs ps → List Nat → List (Nat × Reg)
  | .v _ :: ps, y, ids => ioRegs ps y.2 ids
  | .box t :: ps, y, r :: ids => (r, .box t y.1) :: ioRegs ps y.2 ids
  | .row t :: ps, y, r :: ids => (r, .row t y.1) :: ioRegs ps y.2 ids
  | _, _, _ => []
def resVs : (rs : List RK) → rdens rs → Nat → List SV
  | [], _, _ => []
  | .v t :: rs, y, n => .val t y.1 :: resVs rs y.2 n
  | .row _ :: rs, y, n => .sl n :: resVs rs y.2 (n + 1)
  | .box _ :: rs, y, n => .addr n [] :: resVs rs y.2 (n + 1)
  | .obox _ :: rs, y, n => .addr n [] :: resVs rs y.2 (n + 1)
  | .vn t :: rs, y, n => .valn t y.1 :: resVs rs y.2 n
def resRegs : (rs : List RK) → rdens rs → Nat → List (Nat × Reg)
  | [], _, _ => []
  | .v _ :: rs, y, n => resRegs rs y.2 n
  | .row t :: rs, y, n => (n, .row t y.1) :: resRegs rs y.2 (n + 1)
  | .box t :: rs, y, n => (n, .box t y.1) :: resRegs rs y.2 (n + 1)
  | .obox t :: rs, y, n => (n, .obox t y.1) :: resRegs rs y.2 (n + 1)
  | .vn _ :: rs, y, n => resRegs rs y.2 n
def freshCount (rs : List RK) : Nat := (rs.filter RK.fresh).length
def retAV : List SV → AV
  | [v] => .s v
  | vs => .tup vs
def nodupB : List Nat → Bool
  | [] => true
  | x :: xs => !xs.contains x && nodupB xs
theorem nodupB_spec : ∀ {l : List Nat}, nodupB l = true → l.Nodup
  | [], _ => List.nodup_nil
  | x :: xs, h => by
    simp only [nodupB, Bool.and_eq_true, Bool.not_eq_true', List.contains_eq_mem, decide_eq_false_iff_not] at h
    exact List.nodup_cons.2 ⟨h.1, nodupB_spec h.2⟩

def callV (S : Summ) (rs : Regs) (n : Nat) (vs : List SV) : Option Out :=
  match bindP rs S.esc S.par vs with
  | some (x, vc, io, bo) =>
    if nodupB io && bo.all (fun r => !io.contains r) && decide (freshCount S.res ≤ 8) then
      some (vc ++ [S.pre x], retAV (resVs S.res (S.fn x).1 n),
        (ioRegs S.par (S.fn x).2 io).map (fun p => EffI.set (some p.1) p.1 p.2) ++ (resRegs S.res (S.fn x).1 n).map (fun p => EffI.set none p.1 p.2))
    else none
  | none => none

/-- What the parameters' binding says of the machine. -/
theorem bindP_sound {cx : Cx} {φ : Phi} {st : St} {a : Act} {w : World} (R : RelF cx φ st a w) {esc : Bool} (ok : Nat → Prop) (hok : ∀ b, okOf st.regs φ b → ok b) :
    ∀ (ps : List PK) (vs : List SV) (Vs : List Value) (x : dens ps) (vc : List Prop) (io bo : List Nat), bindP st.regs esc ps vs = some (x, vc, io, bo) → (∀ p ∈ vc, p) →
      (∀ r ∈ bo, ∀ b, (φ r).blk = some b → ok b) → All2 (SVRel st.regs φ (okOf st.regs φ) w) vs Vs →
      ∃ ls, PsRel ok (okOf st.regs φ) w ps x Vs ls ∧ ioLocs ps ls = io.map φ ∧ (∀ r ∈ io, ∃ g, look st.regs r = some g) := by
  have hmono : ∀ b o, okOf st.regs φ b → w.heap[b]? = some o → ok b ∧ w.heap[b]? = some o := fun b o h1 h2 => ⟨hok b h1, h2⟩
  intro ps
  induction ps with
  | nil =>
    intro vs Vs x vc io bo h hvc hbo hall
    cases vs with
    | nil =>
      cases hall
      simp only [bindP, Option.some.injEq, Prod.mk.injEq] at h
      obtain ⟨_, _, rfl, _⟩ := h
      exact ⟨[], ⟨rfl, rfl⟩, rfl, by simp⟩
    | cons v vs => simp [bindP] at h
  | cons p ps ih =>
    intro vs Vs x vc io bo h hvc hbo hall
    cases vs with
    | nil => cases p <;> simp [bindP] at h
    | cons v vs =>
      cases hall with
      | cons hv ht =>
        rename_i V Vs
        cases p with
        | v t =>
          simp only [bindP] at h
          split at h
          · rename_i y b x' vc' io' bo' hr hb
            simp only [Option.some.injEq, Prod.mk.injEq] at h
            obtain ⟨rfl, rfl, rfl, rfl⟩ := h
            obtain ⟨ls, h1, h2, h4⟩ := ih vs Vs x' vc' io' bo' hb hvc (fun r hr => hbo r (List.mem_append_right _ hr)) ht
            refine ⟨⟨none, 0, 0⟩ :: ls, ⟨V, Vs, _, ls, rfl, rfl, ?_, h1⟩, by simpa [ioLocs, PK.io] using h2, h4⟩
            unfold readV at hr
            split at hr
            · rename_i u z
              rw [Option.map_eq_some_iff] at hr
              obtain ⟨z', hz, e⟩ := hr
              cases e
              obtain ⟨e1, e2⟩ := castTy_some hz
              subst e1; subst e2
              exact VRel.mono hmono hv
            · split at hr
              · cases hr
                have hv' : V = .slice none 0 0 := hv
                subst hv'
                exact ⟨⟨none, 0, rfl, Nat.le_refl _, .inl rfl⟩, rfl, rfl⟩
              · cases hr
            · rename_i r
              split at hr
              · cases hr
              · split at hr
                · rename_i τ
                  split at hr
                  · rename_i τ' xs hl
                    rw [Option.map_eq_some_iff] at hr
                    obtain ⟨z', hz, e⟩ := hr
                    cases e
                    obtain ⟨e1, e2⟩ := castTy_some hz
                    cases e1
                    subst e2
                    have hV : V = _ := hv _ _ hl
                    subst hV
                    exact row_val R hl ok hok (fun b hb => hbo r (by simp) b hb)
                  · cases hr
                · cases hr
            · cases hr
          · cases h
        | box t =>
          cases v with
          | addr r p =>
            cases p with
            | nil =>
              simp only [bindP] at h
              split at h
              · rename_i t' y hl
                split at h
                · rename_i y' x' vc' io' bo' hc hb
                  simp only [Option.some.injEq, Prod.mk.injEq] at h
                  obtain ⟨rfl, rfl, rfl, rfl⟩ := h
                  obtain ⟨e1, e2⟩ := castTy_some hc
                  subst e1; subst e2
                  obtain ⟨ls, h1, h2, h4⟩ := ih vs Vs x' vc' io' bo' hb hvc hbo ht
                  have hg := R.rg r _ hl
                  obtain ⟨b, g1, _, g3⟩ := hv _ hl
                  refine ⟨φ r :: ls, ⟨V, Vs, _, ls, rfl, rfl, ⟨hg, b, g1, by rw [g3]; simp [poff]⟩, h1⟩, by simp [ioLocs, PK.io, h2], ?_⟩
                  intro s hs
                  rcases List.mem_cons.1 hs with hs | hs
                  · subst hs; exact ⟨_, hl⟩
                  · exact h4 s hs
                · cases h
              · rename_i t' o hl
                split at h
                · rename_i y' x' vc' io' bo' hc hb
                  simp only [Option.some.injEq, Prod.mk.injEq] at h
                  obtain ⟨rfl, rfl, rfl, rfl⟩ := h
                  have ho : o.isSome = true := hvc _ (by simp)
                  obtain ⟨z, rfl⟩ := Option.isSome_iff_exists.1 ho
                  obtain ⟨e1, e2⟩ := castTy_some hc
                  subst e1; subst e2
                  obtain ⟨ls, h1, h2, h4⟩ := ih vs Vs x' vc' io' bo' hb (fun p hp => hvc p (List.mem_cons_of_mem _ hp)) hbo ht
                  have hg := R.rg r _ hl
                  obtain ⟨_, g2, g3⟩ := hv _ hl
                  obtain ⟨f0, b, cs, ty, fz, f1, f2, f3, f4, f5⟩ := id hg
                  rw [f1] at g3
                  refine ⟨φ r :: ls, ⟨V, Vs, _, ls, rfl, rfl, ⟨hg, b, f1, g3⟩, h1⟩, by simp [ioLocs, PK.io, h2], ?_⟩
                  intro s hs
                  rcases List.mem_cons.1 hs with hs | hs
                  · subst hs; exact ⟨_, hl⟩
                  · exact h4 s hs
                · cases h
              · cases h
            | cons _ _ => simp [bindP] at h
          | _ => simp [bindP] at h
        | row t =>
          cases v with
          | sl r =>
            simp only [bindP] at h
            split at h
            · rename_i t' ys hl
              split at h
              · rename_i y' x' vc' io' bo' hc hb
                simp only [Option.some.injEq, Prod.mk.injEq] at h
                obtain ⟨rfl, rfl, rfl, rfl⟩ := h
                obtain ⟨e1, e2⟩ := castTy_some hc
                cases e1
                have e2 : ys = y' := e2
                subst e2
                obtain ⟨ls, h1, h2, h4⟩ := ih vs Vs x' vc' io' bo' hb hvc hbo ht
                have hg := R.rg r _ hl
                have hV := hv _ _ hl
                refine ⟨φ r :: ls, ⟨V, Vs, _, ls, rfl, rfl, ⟨hg, hV⟩, h1⟩, by simp [ioLocs, PK.io, h2], ?_⟩
                intro s hs
                rcases List.mem_cons.1 hs with hs | hs
                · subst hs; exact ⟨_, hl⟩
                · exact h4 s hs
              · cases h
            · cases h
          | _ => simp [bindP] at h

theorem bindP_bo {rs : Regs} {esc : Bool} : ∀ (ps : List PK) (vs : List SV) (x : dens ps) (vc : List Prop) (io bo : List Nat), bindP rs esc ps vs = some (x, vc, io, bo) → ∀ r ∈ bo, esc = false ∧ ∃ g, look rs r = some g := by
  intro ps
  induction ps with
  | nil =>
    intro vs x vc io bo h r hr
    cases vs with
    | nil => simp only [bindP, Option.some.injEq, Prod.mk.injEq] at h; obtain ⟨_, _, _, rfl⟩ := h; cases hr
    | cons v vs => simp [bindP] at h
  | cons p ps ih =>
    intro vs x vc io bo h r hr
    cases vs with
    | nil => cases p <;> simp [bindP] at h
    | cons v vs =>
      cases p with
      | v t =>
        simp only [bindP] at h
        split at h
        · rename_i y b x' vc' io' bo' hrd hb
          simp only [Option.some.injEq, Prod.mk.injEq] at h
          obtain ⟨rfl, rfl, rfl, rfl⟩ := h
          rcases List.mem_append.1 hr with hr | hr
          · unfold readV at hrd
            split at hrd
            · rw [Option.map_eq_some_iff] at hrd
              obtain ⟨z', hz, e⟩ := hrd
              cases e; simp at hr
            · split at hrd <;> cases hrd; simp at hr
            · rename_i s
              split at hrd
              · cases hrd
              · rename_i hesc
                split at hrd
                · split at hrd
                  · rename_i τ' xs hl
                    rw [Option.map_eq_some_iff] at hrd
                    obtain ⟨z', hz, e⟩ := hrd
                    cases e
                    simp at hr
                    subst hr
                    exact ⟨by simpa using hesc, _, hl⟩
                  · cases hrd
                · cases hrd
            · cases hrd
          · exact ih vs x' vc' io' bo' hb r hr
        · cases h
      | box t =>
        cases v with
        | addr s p =>
          cases p with
          | nil =>
            simp only [bindP] at h
            split at h
            · split at h
              · rename_i y' x' vc' io' bo' hc hb
                simp only [Option.some.injEq, Prod.mk.injEq] at h
                obtain ⟨rfl, rfl, rfl, rfl⟩ := h
                exact ih vs x' vc' io' bo' hb r hr
              · cases h
            · split at h
              · rename_i y' x' vc' io' bo' hc hb
                simp only [Option.some.injEq, Prod.mk.injEq] at h
                obtain ⟨rfl, rfl, rfl, rfl⟩ := h
                exact ih vs x' vc' io' bo' hb r hr
              · cases h
            · cases h
          | cons _ _ => simp [bindP] at h
        | _ => simp [bindP] at h
      | row t =>
        cases v with
        | sl s =>
          simp only [bindP] at h
          split at h
          · split at h
            · rename_i y' x' vc' io' bo' hc hb
              simp only [Option.some.injEq, Prod.mk.injEq] at h
              obtain ⟨rfl, rfl, rfl, rfl⟩ := h
              exact ih vs x' vc' io' bo' hb r hr
            · cases h
          · cases h
        | _ => simp [bindP] at h

/-- The written regions, as they are afterwards. -/
theorem ioRegs_sound {rs : Regs} {esc : Bool} {φ : Phi} {ok : Nat → Prop} {w : World} : ∀ (ps : List PK) (vs : List SV) (x : dens ps) (vc : List Prop) (io bo : List Nat) (y : outs ps) (ls : List Loc), bindP rs esc ps vs = some (x, vc, io, bo) → (∀ p ∈ vc, p) →
    ioLocs ps ls = io.map φ → ls.length = ps.length → OutRel ok w ps x y ls →
    (ioRegs ps y io).map (·.1) = io ∧ ∀ r g', (r, g') ∈ ioRegs ps y io → (∃ g, look rs r = some g ∧ SameKind g g') ∧ g'.at ok w (φ r) := by
  intro ps
  induction ps with
  | nil =>
    intro vs x vc io bo y ls h hvc hl hll ho
    cases vs with
    | nil =>
      simp only [bindP, Option.some.injEq, Prod.mk.injEq] at h
      obtain ⟨_, _, rfl, _⟩ := h
      exact ⟨rfl, fun r g' hm => by simp [ioRegs] at hm⟩
    | cons v vs => simp [bindP] at h
  | cons p ps ih =>
    intro vs x vc io bo y ls h hvc hl hll ho
    cases ls with
    | nil => simp at hll
    | cons l ls =>
    have hll' : ls.length = ps.length := by simpa using hll
    cases vs with
    | nil => cases p <;> simp [bindP] at h
    | cons v vs =>
      cases p with
      | v t =>
        simp only [bindP] at h
        split at h
        · rename_i y0 b x' vc' io' bo' hrd hb
          simp only [Option.some.injEq, Prod.mk.injEq] at h
          obtain ⟨rfl, rfl, rfl, rfl⟩ := h
          have hl' : ioLocs ps ls = io'.map φ := by simpa [ioLocs, PK.io] using hl
          exact ih vs x' vc' io' bo' y.2 ls hb hvc hl' hll' ho
        · cases h
      | box t =>
        cases v with
        | addr s p =>
          cases p with
          | nil =>
            simp only [bindP] at h
            split at h
            · rename_i t' y1 hlk
              split at h
              · rename_i y' x' vc' io' bo' hc hb
                simp only [Option.some.injEq, Prod.mk.injEq] at h
                obtain ⟨rfl, rfl, rfl, rfl⟩ := h
                obtain ⟨e1, e2⟩ := castTy_some hc
                subst e1
                simp only [ioLocs, PK.io, if_true, List.map_cons, List.cons.injEq] at hl
                obtain ⟨hl1, hl2⟩ := hl
                obtain ⟨⟨l1, ho1, ho2⟩, ho3⟩ := ho
                simp only [List.head?_cons, Option.some.injEq] at ho1
                subst ho1
                obtain ⟨i1, i2⟩ := ih vs x' vc' io' bo' y.2 ls hb hvc hl2 hll' ho3
                refine ⟨by simp [ioRegs, i1], fun r g' hm => ?_⟩
                simp only [ioRegs, List.mem_cons] at hm
                rcases hm with hm | hm
                · cases hm
                  exact ⟨⟨_, hlk, rfl⟩, hl1 ▸ ho2⟩
                · exact i2 r g' hm
              · cases h
            · rename_i t' o hlk
              split at h
              · rename_i y' x' vc' io' bo' hc hb
                simp only [Option.some.injEq, Prod.mk.injEq] at h
                obtain ⟨rfl, rfl, rfl, rfl⟩ := h
                have hs : o.isSome = true := hvc _ (by simp)
                obtain ⟨z, rfl⟩ := Option.isSome_iff_exists.1 hs
                obtain ⟨e1, e2⟩ := castTy_some hc
                subst e1
                simp only [ioLocs, PK.io, if_true, List.map_cons, List.cons.injEq] at hl
                obtain ⟨hl1, hl2⟩ := hl
                obtain ⟨⟨l1, ho1, ho2⟩, ho3⟩ := ho
                simp only [List.head?_cons, Option.some.injEq] at ho1
                subst ho1
                obtain ⟨i1, i2⟩ := ih vs x' vc' io' bo' y.2 ls hb (fun p hp => hvc p (List.mem_cons_of_mem _ hp)) hl2 hll' ho3
                refine ⟨by simp [ioRegs, i1], fun r g' hm => ?_⟩
                simp only [ioRegs, List.mem_cons] at hm
                rcases hm with hm | hm
                · cases hm
                  exact ⟨⟨_, hlk, rfl⟩, hl1 ▸ ho2⟩
                · exact i2 r g' hm
              · cases h
            · cases h
          | cons _ _ => simp [bindP] at h
        | _ => simp [bindP] at h
      | row t =>
        cases v with
        | sl s =>
          simp only [bindP] at h
          split at h
          · rename_i t' ys hlk
            split at h
            · rename_i y' x' vc' io' bo' hc hb
              simp only [Option.some.injEq, Prod.mk.injEq] at h
              obtain ⟨rfl, rfl, rfl, rfl⟩ := h
              obtain ⟨e1, e2⟩ := castTy_some hc
              cases e1
              have e2 : ys = y' := e2
              subst e2
              simp only [ioLocs, PK.io, if_true, List.map_cons, List.cons.injEq] at hl
              obtain ⟨hl1, hl2⟩ := hl
              obtain ⟨⟨l1, ho1, ho2, ho4⟩, ho3⟩ := ho
              simp only [List.head?_cons, Option.some.injEq] at ho1
              subst ho1
              obtain ⟨i1, i2⟩ := ih vs x' vc' io' bo' y.2 ls hb hvc hl2 hll' ho3
              refine ⟨by simp [ioRegs, i1], fun r g' hm => ?_⟩
              simp only [ioRegs, List.mem_cons] at hm
              rcases hm with hm | hm
              · cases hm
                exact ⟨⟨_, hlk, ⟨rfl, ho4.symm⟩⟩, hl1 ▸ ho2⟩
              · exact i2 r g' hm
            · cases h
          · cases h
        | _ => simp [bindP] at h

theorem PsRel.length {ok okO : Nat → Prop} {w : World} : ∀ (ps : List PK) (x : dens ps) (vs : List Value) (ls : List Loc), PsRel ok okO w ps x vs ls → ls.length = ps.length
  | [], _, _, _, h => by rw [h.2]; rfl
  | p :: ps, x, vs, ls, h => by
    obtain ⟨v, vs', l, ls', rfl, rfl, _, h2⟩ := h
    simp [PsRel.length ps _ _ _ h2]

end Go.Lift
