/- Loads, stores, addresses, makers: abstract, and that they tell what the machine does. -/
import Derived.Test.YtfkedbncidahjaaL4
set_option linter.unusedVariables false
set_option linter.unusedSimpArgs false
namespace Go.Lift
open Go

inductive EffI where
  | set (old : Option Nat) (n : Nat) (g : Reg)
  | del (r : Nat)
abbrev Eff := List EffI
def EffI.app (rs : Regs) : EffI → Regs
  | .set old n g => upd (without rs old) n (some g)
  | .del r => drop rs r
def Eff.app (rs : Regs) : Eff → Regs
  | [] => rs
  | e :: es => Eff.app (e.app rs) es

def FreshN (cx : Cx) (st : St) (n : Nat) : Prop := Fresh st n ∧ ∀ l, (n, l) ∉ cx.io

theorem RelF.del {cx : Cx} {φ : Phi} {st : St} {a : Act} {w : World} (R : RelF cx φ st a w) (r : Nat) : RelF cx φ { st with regs := drop st.regs r } a w := by
  have hlk : ∀ s g, look (drop st.regs r) s = some g → look st.regs s = some g := by
    intro s g h
    rw [look_drop] at h
    split at h
    · cases h
    · exact h
  have hm : ∀ b o, okOf st.regs φ b → w.heap[b]? = some o → okOf (drop st.regs r) φ b ∧ w.heap[b]? = some o :=
    fun b o h1 h2 => ⟨⟨fun s g hs => h1.1 s g (hlk s g hs), h1.2⟩, h2⟩
  exact R.change hm (fun s g hs _ => ⟨rfl, g, hlk s g hs, SameKind.refl g⟩) (fun s g hs => Reg.at_mono hm (fun _ _ => rfl) (R.rg s g (hlk s g hs)))
    (fun s s' g g' b h1 h2 h3 h4 => R.sep s s' g g' b (hlk _ _ h1) (hlk _ _ h2) h3 h4) (fun s g b h1 h2 => R.fr s g b (hlk _ _ h1) h2)
    (fun s l h1 h2 => R.io s l h1 (by obtain ⟨g, hg⟩ := Option.isSome_iff_exists.1 h2; rw [hlk _ _ hg]; rfl)) (Kept.refl _ _ _) rfl

/-- A simple value as one of a type; what it takes with it. -/
def toVal (rs : Regs) (v : SV) (t : Ty) : Option (t.den × List Nat) :=
  match v with
  | .val u y => (castTy u t y).map fun z => (z, [])
  | .nilsl => match t with
    | .ro τ => some (([] : List τ.den), [])
    | _ => none
  | .sl r => match t with
    | .ro τ => match look rs r with
      | some (.row τ' xs) => (castTy (.ro τ') (.ro τ) xs).map fun z => (z, [r])
      | _ => none
    | _ => none
  | _ => none

def dels (rs : Regs) : List Nat → Regs
  | [] => rs
  | r :: l => dels (drop rs r) l
theorem RelF.dels {cx : Cx} {φ : Phi} {a : Act} {w : World} : ∀ (l : List Nat) {st : St}, RelF cx φ st a w → RelF cx φ { st with regs := dels st.regs l } a w
  | [], _, R => R
  | r :: l, _, R => RelF.dels l (R.del r)
theorem look_dels : ∀ (l : List Nat) (rs : Regs) (s : Nat), look (dels rs l) s = if s ∈ l then none else look rs s
  | [], rs, s => by simp [dels]
  | r :: l, rs, s => by
    simp only [dels, look_dels l, look_drop, List.mem_cons]
    by_cases h : s ∈ l
    · simp [h]
    · by_cases h2 : r = s
      · simp [h2]
      · simp [h, h2, Ne.symm h2]

theorem row_val {cx : Cx} {φ : Phi} {st : St} {a : Act} {w : World} (R : RelF cx φ st a w) {r : Nat} {τ : Ty} {xs : List τ.den} (h : look st.regs r = some (.row τ xs)) (ok : Nat → Prop)
    (hok : ∀ b, okOf st.regs φ b → ok b) (hb : ∀ b, (φ r).blk = some b → ok b) : VRel ok w (.ro τ) xs (.slice (φ r).addr xs.length (φ r).cap) := by
  have hg := R.rg r _ h
  refine ⟨⟨(φ r).addr, (φ r).cap, rfl, hg.1, ?_⟩, rfl, rfl⟩
  have h2 := hg.2
  cases hbl : (φ r).blk with
  | none =>
    simp only [hbl] at h2
    left
    have := hg.1
    rw [h2] at this
    exact List.length_eq_zero_iff.1 (by omega)
  | some b =>
    simp only [hbl] at h2
    obtain ⟨cs, ty, fz, e1, e2, e3, e4⟩ := h2
    right
    exact ⟨b, (φ r).off, cs, ty, fz, by simp [Loc.addr, hbl], hb b hbl, e1, fun i hi => Ty.rd_mono (fun b o h1 h2 => ⟨hok b h1, h2⟩) _ _ _ (e4 i hi)⟩

theorem toVal_sound {cx : Cx} {φ : Phi} {st : St} {a : Act} {w : World} (R : RelF cx φ st a w) {v : SV} {t : Ty} {y : t.den} {l : List Nat} {V : Value}
    (h : toVal st.regs v t = some (y, l)) (hv : SVRel st.regs φ (okOf st.regs φ) w v V) : VRel (okOf (dels st.regs l) φ) w t y V := by
  unfold toVal at h
  split at h
  · rename_i u z
    rw [Option.map_eq_some_iff] at h
    obtain ⟨z', hz, e⟩ := h
    cases e
    obtain ⟨e1, e2⟩ := castTy_some hz
    subst e1; subst e2
    exact hv
  · split at h
    · cases h
      have hv' : V = .slice none 0 0 := hv
      subst hv'
      exact ⟨⟨none, 0, rfl, Nat.le_refl _, .inl rfl⟩, rfl, rfl⟩
    · cases h
  · rename_i r
    split at h
    · rename_i τ
      split at h
      · rename_i τ' xs hl
        rw [Option.map_eq_some_iff] at h
        obtain ⟨z', hz, e⟩ := h
        cases e
        obtain ⟨e1, e2⟩ := castTy_some hz
        cases e1
        subst e2
        have hV : V = _ := hv _ _ hl
        subst hV
        refine row_val R hl _ (fun b hb => ⟨fun s g hs => ?_, hb.2⟩) (fun b hb => ⟨fun s g hs => ?_, (R.bs b).2 ((R.fr r _ b hl hb).elim .inl (fun h => .inr (.inl h)))⟩)
        · rw [look_dels] at hs
          split at hs
          · cases hs
          · exact hb.1 s g hs
        · intro hb2
          rw [look_dels] at hs
          split at hs
          · cases hs
          · rename_i hns
            exact hns (by rw [R.sep s r g _ b hs hl hb2 hb]; simp)
      · cases h
    · cases h
  · cases h

/-! ### load -/
def loadV (P : Program) (rs : Regs) (t : TypeId) (x : SV) : Option SV :=
  match x with
  | .ra u y => if fits P t u = true then some (.val u y) else none
  | .addr r p => match look rs r with
    | some (.box τ x) => match pty τ p with
      | some u => if fits P t u = true then (pget τ x p u).map (fun y => SV.val u y) else none
      | none => none
    | some (.row τ xs) => match p with
      | .idx i :: p => match pty τ p with
        | some u => if fits P t u = true then (pget τ (xs.getD i.toNat τ.dflt) p u).map (fun y => SV.val u y) else none
        | none => none
      | _ => none
    | _ => none
  | _ => none

theorem loadV_sound {cx : Cx} {φ : Phi} {st : St} {a : Act} {w : World} (R : RelF cx φ st a w) {t : TypeId} {x v : SV} {X : Value}
    (h : loadV cx.P st.regs t x = some v) (hx : SVRel st.regs φ (okOf st.regs φ) w x X) :
    ∃ V, (Instr.loadAt t X).run cx.P w = .ok V w ∧ SVRel st.regs φ (okOf st.regs φ) w v V := by
  unfold loadV at h
  split at h
  · rename_i u y
    split at h
    · rename_i hf
      cases h
      obtain ⟨b, o, cs, ty, fz, e1, e2, e3, e4⟩ := hx
      obtain ⟨V, hV, hr⟩ := run_loadVar_rd hf e3 e4
      refine ⟨V, ?_, hr⟩
      simp only [Instr.loadAt, e1, Instr.sureAddr, Sem.run_bind, Sem.run_pure, Result.andThen_ok, hV]
    · cases h
  · rename_i r p
    split at h
    · rename_i τ x hl
      split at h
      · rename_i u hp
        split at h
        · rename_i hf
          rw [Option.map_eq_some_iff] at h
          obtain ⟨y, hy, e⟩ := h
          subst e
          obtain ⟨b, e1, e2, e3⟩ := hx _ hl
          obtain ⟨_, b', cs, ty, fz, f1, f2, f3, f4, f5⟩ := R.rg r _ hl
          rw [e1] at f1; cases f1
          have := rd_pget p τ x _ u y f5 e2 hy
          obtain ⟨V, hV, hr⟩ := run_loadVar_rd hf f2 this
          refine ⟨V, ?_, hr⟩
          simp only [Instr.loadAt, e3, Instr.sureAddr, Sem.run_bind, Sem.run_pure, Result.andThen_ok, hV]
        · cases h
      · cases h
    · rename_i τ xs hl
      split at h
      · rename_i i p
        split at h
        · rename_i u hp
          split at h
          · rename_i hf
            rw [Option.map_eq_some_iff] at h
            obtain ⟨y, hy, e⟩ := h
            subst e
            obtain ⟨i', p', b, e0, e1, e2, e3, e4, e5⟩ := hx _ hl
            cases e0
            have h2 := (R.rg r _ hl).2
            simp only [e4] at h2
            obtain ⟨cs, ty, fz, f1, f2, f3, f4⟩ := h2
            have hi : i.toNat < xs.length := by omega
            have e : xs.getD i.toNat τ.dflt = xs[i.toNat] := by simp [List.getD, List.getElem?_eq_getElem hi]
            rw [e] at hy
            have := rd_pget p τ _ _ u y (f4 i.toNat hi) e3 hy
            simp only [← Nat.add_assoc] at this
            obtain ⟨V, hV, hr⟩ := run_loadVar_rd hf f1 this
            refine ⟨V, ?_, hr⟩
            simp only [Instr.loadAt, e5, Instr.sureAddr, Sem.run_bind, Sem.run_pure, Result.andThen_ok, hV]
          · cases h
        · cases h
      · cases h
    · cases h
  · cases h

/-! ### store -/
def storeV (P : Program) (rs : Regs) (t : TypeId) (x v : SV) : Option Eff :=
  match x with
  | .addr r p => match look rs r with
    | some (.box τ x) => match pty τ p with
      | some u => match toVal rs v u with
        | some (y, l) => if sizeT P t = some u.sz ∧ r ∉ l then (pset τ x p u y).map (fun x' => l.map EffI.del ++ [EffI.set (some r) r (.box τ x')]) else none
        | none => none
      | none => none
    | some (.row τ xs) => match p with
      | .idx i :: p => match pty τ p with
        | some u => match toVal rs v u with
          | some (y, l) => if sizeT P t = some u.sz ∧ r ∉ l then
              (pset τ (xs.getD i.toNat τ.dflt) p u y).map (fun x' => l.map EffI.del ++ [EffI.set (some r) r (.row τ (xs.set i.toNat x'))]) else none
          | none => none
        | none => none
      | _ => none
    | _ => none
  | _ => none

theorem app_dels (rs : Regs) (e : Eff) : ∀ (l : List Nat), Eff.app rs (l.map EffI.del ++ e) = Eff.app (dels rs l) e
  | [] => rfl
  | r :: l => by simp only [List.map_cons, List.cons_append, Eff.app, EffI.app, dels]; exact app_dels (drop rs r) e l

theorem okOf_dels {rs : Regs} {φ : Phi} (l : List Nat) {b : Nat} (h : okOf rs φ b) : okOf (dels rs l) φ b := by
  refine ⟨fun s g hs => ?_, h.2⟩
  rw [look_dels] at hs
  split at hs
  · cases hs
  · exact h.1 s g hs

theorem storeV_sound {cx : Cx} {φ : Phi} {st : St} {a : Act} {w : World} (R : RelF cx φ st a w) {t : TypeId} {x v : SV} {e : Eff} {X V : Value}
    (h : storeV cx.P st.regs t x v = some e) (hx : SVRel st.regs φ (okOf st.regs φ) w x X) (hv : SVRel st.regs φ (okOf st.regs φ) w v V) :
    ∃ w', (Instr.storeAt t X V).run cx.P w = .ok () w' ∧ RelF cx φ { st with regs := e.app st.regs } a w' := by
  unfold storeV at h
  split at h
  · rename_i r p
    split at h
    · rename_i τ x hl
      split at h
      · rename_i u hp
        split at h
        · rename_i y l htv
          split at h
          · rename_i hc
            obtain ⟨hsz, hnl⟩ := hc
            rw [Option.map_eq_some_iff] at h
            obtain ⟨x', hx', e⟩ := h
            subst e
            have R1 := R.dels l
            have hV := toVal_sound R htv hv
            obtain ⟨b, e1, e2, e3⟩ := hx _ hl
            have hl1 : look (dels st.regs l) r = some (.box τ x) := by rw [look_dels, if_neg hnl]; exact hl
            obtain ⟨f0, b', cs, ty, fz, f1, f2, f3, f4, f5⟩ := R1.rg r _ hl1
            rw [e1] at f1; cases f1
            have hb := poff_le p τ u e2 hp
            obtain ⟨w', cs', g1, g2, g3, g4, g5⟩ := run_storeVar_rd (P := cx.P) (b := b) (o := poff τ p) hsz f2 f3 (by omega) hV
            refine ⟨w', ?_, ?_⟩
            · simp only [Instr.storeAt, e3, Instr.sureAddr, Sem.run_bind, Sem.run_pure, Result.andThen_ok, g1]
            · rw [app_dels]
              have hstep := R1.step (w' := w') (some r) r (.box τ x') (φ r)
                (fun b0 hb0 => .inr ⟨r, _, rfl, hl1, hb0⟩) (fun b0 _ hne => g2.other b0 (fun e0 => hne (by rw [e1, e0])))
                (.inr ⟨rfl, rfl, _, hl1, rfl⟩) (fun l0 _ hf => by have := hf.1; rw [hl1] at this; cases this)
                ⟨f0, b, cs', ty, fz, e1, g2.at_, by rw [g3]; exact f3, by rw [g3]; exact f4,
                  rd_pset p τ x _ _ u y x' _ f5 e2 hx' hV.1 (fun j hj => g4 j hj) (fun j hj => g5 j hj)⟩
                g2.os g2.tape g2.output (by rw [g2.size]; exact Nat.le_refl _)
              have hφ : setLoc φ r (φ r) = φ := setLoc_self φ r
              rw [hφ] at hstep
              exact hstep
          · cases h
        · cases h
      · cases h
    · rename_i τ xs hl
      split at h
      · rename_i i p
        split at h
        · rename_i u hp
          split at h
          · rename_i y l htv
            split at h
            · rename_i hc
              obtain ⟨hsz, hnl⟩ := hc
              rw [Option.map_eq_some_iff] at h
              obtain ⟨x', hx', e⟩ := h
              subst e
              have R1 := R.dels l
              have hV := toVal_sound R htv hv
              obtain ⟨i', p', b, e0, e1, e2, e3, e4, e5⟩ := hx _ hl
              cases e0
              have hl1 : look (dels st.regs l) r = some (.row τ xs) := by rw [look_dels, if_neg hnl]; exact hl
              have hr1 := R1.rg r _ hl1
              have h2 := hr1.2
              simp only [e4] at h2
              obtain ⟨cs, ty, fz, f1, f2, f3, f4⟩ := h2
              have hi : i.toNat < xs.length := by omega
              have hcap := hr1.1
              have e : xs.getD i.toNat τ.dflt = xs[i.toNat] := by simp [List.getD, List.getElem?_eq_getElem hi]
              rw [e] at hx'
              have hb := poff_le p τ u e3 hp
              have hfit : (φ r).off + i.toNat * τ.sz + poff τ p + u.sz ≤ cs.size := by
                have h3 : (i.toNat + 1) * τ.sz ≤ (φ r).cap * τ.sz := Nat.mul_le_mul_right _ (by omega)
                rw [Nat.add_mul] at h3
                omega
              obtain ⟨w', cs', g1, g2, g3, g4, g5⟩ := run_storeVar_rd (P := cx.P) (b := b) (o := (φ r).off + i.toNat * τ.sz + poff τ p) hsz f1 f2 hfit hV
              refine ⟨w', ?_, ?_⟩
              · simp only [Instr.storeAt, e5, Instr.sureAddr, Sem.run_bind, Sem.run_pure, Result.andThen_ok, g1]
              · rw [app_dels]
                have hstep := R1.step (w' := w') (some r) r (.row τ (xs.set i.toNat x')) (φ r)
                  (fun b0 hb0 => .inr ⟨r, _, rfl, hl1, hb0⟩) (fun b0 _ hne => g2.other b0 (fun e0 => hne (by rw [e4, e0])))
                  (.inr ⟨rfl, rfl, _, hl1, ⟨rfl, by simp⟩⟩) (fun l0 _ hf => by have := hf.1; rw [hl1] at this; cases this)
                  (by
                    refine ⟨by simpa using hcap, ?_⟩
                    simp only [e4]
                    refine ⟨cs', ty, fz, g2.at_, by rw [g3]; exact f2, by rw [g3]; exact f3, fun k hk => ?_⟩
                    have hk' : k < xs.length := by simpa using hk
                    by_cases hki : k = i.toNat
                    · subst hki
                      have : (xs.set i.toNat x')[i.toNat]'hk = x' := by simp
                      rw [this]
                      refine rd_pset p τ _ _ _ u y x' _ (f4 i.toNat hi) e3 hx' hV.1 (fun j hj => g4 _ (by omega)) (fun j hj => ?_)
                      have := g5 j hj
                      simpa only [Nat.add_assoc] using this
                    · have : (xs.set i.toNat x')[k]'hk = xs[k] := by rw [List.getElem_set_ne (by omega)]
                      rw [this]
                      refine Ty.rd_congr _ _ _ _ (fun j hj => (g4 _ ?_).symm) (f4 k hk')
                      rcases Nat.lt_or_gt_of_ne hki with hlt | hgt
                      · left
                        have h5 : (k + 1) * τ.sz ≤ i.toNat * τ.sz := Nat.mul_le_mul_right _ hlt
                        rw [Nat.add_mul] at h5
                        omega
                      · right
                        have h5 : (i.toNat + 1) * τ.sz ≤ k * τ.sz := Nat.mul_le_mul_right _ hgt
                        rw [Nat.add_mul] at h5
                        omega)
                  g2.os g2.tape g2.output (by rw [g2.size]; exact Nat.le_refl _)
                have hφ : setLoc φ r (φ r) = φ := setLoc_self φ r
                rw [hφ] at hstep
                exact hstep
            · cases h
          · cases h
        · cases h
      · cases h
    · cases h
  · cases h

end Go.Lift
