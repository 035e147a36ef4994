/- The abstract state, and how it stands to the machine's. -/
import Derived.Test.YtfkedbncidahjaaL1
set_option linter.unusedVariables false
set_option linter.unusedSimpArgs false
namespace Go.Lift
open Go

inductive SV where
  | undef
  | val (t : Ty) (x : t.den)
  | sl (r : Nat)
  | addr (r : Nat) (p : List Step)
  | ra (t : Ty) (x : t.den)         -- the address of what is not written any more
  | nilsl
  | nilp
  | valn (t : Ty) (xs : List t.den)   -- a slice that is read only, nil if it is empty
  | nilq (e neg : Bool)               -- whether a slice (empty: e) is nil (neg: is not)

inductive AV where
  | s (v : SV)
  | tup (vs : List SV)
  | fn (f : FuncId) (caps : List SV)
  | gd (key : List (Nat × Bool)) (b want : Bool) (v : SV)

inductive Reg where
  | row (t : Ty) (xs : List t.den)
  | box (t : Ty) (x : t.den)
  | obox (t : Ty) (x : Option t.den)

abbrev Regs := List (Nat × Reg)
def look : Regs → Nat → Option Reg
  | [], _ => none
  | (k, g) :: rs, r => if k = r then some g else look rs r
def drop : Regs → Nat → Regs
  | [], _ => []
  | (k, g) :: rs, r => if k = r then drop rs r else (k, g) :: drop rs r
def upd (rs : Regs) (r : Nat) : Option Reg → Regs
  | none => drop rs r
  | some g => (r, g) :: drop rs r
theorem look_drop (rs : Regs) (r s : Nat) : look (drop rs r) s = if r = s then none else look rs s := by
  induction rs with
  | nil => simp [look, drop]
  | cons kg rs ih =>
    obtain ⟨k, g⟩ := kg
    simp only [drop]
    split
    · rename_i h; subst h; rw [ih]; simp only [look]; split <;> rfl
    · rename_i h; simp only [look]; rw [ih]; split
      · rename_i h2; subst h2; rw [if_neg (fun e => h e.symm)]
      · rfl
theorem look_upd (rs : Regs) (r s : Nat) (g : Option Reg) : look (upd rs r g) s = if r = s then g else look rs s := by
  cases g with
  | none => simp only [upd, look_drop]
  | some g => simp only [upd, look, look_drop]; split <;> rfl

structure Loc where
  blk : Option Nat
  off : Nat
  cap : Nat
def Loc.addr (l : Loc) : Option Addr := l.blk.map fun b => ⟨b, l.off, none⟩

/-- Where the regions lie; what may be read at all. -/
structure Phi where
  loc : Nat → Loc
  base : Nat → Prop
instance : CoeFun Phi (fun _ => Nat → Loc) := ⟨Phi.loc⟩

/-- None of the first n cells is frozen. -/
def Thawed (fz : Nat × Nat) (n : Nat) : Prop := ∀ i, i < n → (decide (fz.1 ≤ i) && decide (i < fz.2)) = false

def Value.isAgg : Value → Bool
  | .agg _ => true
  | _ => false
def VRel (ok : Nat → Prop) (w : World) (t : Ty) (x : t.den) (v : Value) : Prop :=
  t.rd ok w x (fun j => v.cells[j]?) ∧ v.cells.size = t.sz ∧ Value.isAgg v = t.agg

/-- A region at its place: the parts read in w, the block itself in w'. -/
def Reg.at2 (ok : Nat → Prop) (w w' : World) (l : Loc) : Reg → Prop
  | .row t xs => xs.length ≤ l.cap ∧
      match l.blk with
      | none => l.cap = 0
      | some b => ∃ cs ty fz, w'.heap[b]? = some (.cells cs ty fz) ∧ Thawed fz cs.size ∧ l.off + l.cap * t.sz ≤ cs.size ∧
          ∀ i (h : i < xs.length), t.rd ok w xs[i] (fun j => cs[l.off + i * t.sz + j]?)
  | .box t x => l.off = 0 ∧ ∃ b cs ty fz, l.blk = some b ∧ w'.heap[b]? = some (.cells cs ty fz) ∧ Thawed fz cs.size ∧ cs.size = t.sz ∧ t.rd ok w x (fun j => cs[j]?)
  | .obox t o => match o with
      | none => l.blk = none
      | some x => l.off = 0 ∧ ∃ b cs ty fz, l.blk = some b ∧ w'.heap[b]? = some (.cells cs ty fz) ∧ Thawed fz cs.size ∧ cs.size = t.sz ∧ t.rd ok w x (fun j => cs[j]?)
abbrev Reg.at (ok : Nat → Prop) (w : World) (l : Loc) (g : Reg) : Prop := g.at2 ok w w l

/-- What an address says. -/
def addrRel (φ : Phi) (r : Nat) (p : List Step) (v : Value) : Reg → Prop
  | .row t xs => ∃ i p' b, p = .idx i :: p' ∧ 0 ≤ i ∧ i < (xs.length : Int) ∧ pok t p' ∧ (φ r).blk = some b ∧
      v = .pointer (some ⟨b, (φ r).off + i.toNat * t.sz + poff t p', none⟩)
  | .box t _ => ∃ b, (φ r).blk = some b ∧ pok t p ∧ v = .pointer (some ⟨b, poff t p, none⟩)
  | .obox _ o => p = [] ∧ (φ r).blk.isSome = o.isSome ∧ v = .pointer ((φ r).blk.map fun b => ⟨b, 0, none⟩)

def SVRel (rs : Regs) (φ : Phi) (ok : Nat → Prop) (w : World) : SV → Value → Prop
  | .undef, _ => True
  | .val t x, v => VRel ok w t x v
  | .sl r, v => ∀ t xs, look rs r = some (.row t xs) → v = .slice (φ r).addr xs.length (φ r).cap
  | .addr r p, v => ∀ g, look rs r = some g → addrRel φ r p v g
  | .nilsl, v => v = .slice none 0 0
  | .nilp, v => v = .pointer none
  | .valn t xs, v => VRel ok w (.ro t) xs v ∧ (xs = [] → v = .slice none 0 0)
  | .nilq e neg, v => ∃ c, v = .bool c ∧ ((c != neg) = true → e = true)
  | .ra t x, v => ∃ b o cs ty fz, v = .pointer (some ⟨b, o, none⟩) ∧ ok b ∧ w.heap[b]? = some (.cells cs ty fz) ∧ t.rd ok w x (fun j => cs[o + j]?)

/-- Two lists, element by element. -/
inductive All2 {α β : Type} (R : α → β → Prop) : List α → List β → Prop where
  | nil : All2 R [] []
  | cons {a b as bs} (h : R a b) (t : All2 R as bs) : All2 R (a :: as) (b :: bs)

def AVRel (rs : Regs) (φ : Phi) (ok : Nat → Prop) (w : World) : AV → Value → Prop
  | .s x, v => SVRel rs φ ok w x v
  | .tup xs, v => ∃ vs : Array Value, v = .tuple vs ∧ All2 (SVRel rs φ ok w) xs vs.toList
  | .fn f caps, v => ∃ cs : Array Value, v = .func (.func f) #[] cs ∧ All2 (SVRel rs φ ok w) caps cs.toList
  | .gd _ b want x, v => (b = want → SVRel rs φ ok w x v) ∧ (¬ b = want → v = undef)

def SV.mentions (n : Nat) : SV → Prop
  | .sl r => r = n
  | .addr r _ => r = n
  | _ => False
def AV.mentions (n : Nat) : AV → Prop
  | .s v => v.mentions n
  | .tup vs => ∃ v ∈ vs, v.mentions n
  | .fn _ vs => ∃ v ∈ vs, v.mentions n
  | .gd _ _ _ v => v.mentions n

structure St where
  tmps : List AV
  regs : Regs
  next : Nat

structure Cx where
  P : Program
  B : Nat
  w0 : World
  io : List (Nat × Loc)
  ro : Nat → Prop
def Cx.own (cx : Cx) (b : Nat) : Prop := ∃ r l, (r, l) ∈ cx.io ∧ l.blk = some b

structure Kept (own : Nat → Prop) (B : Nat) (w w' : World) : Prop where
  os : w'.os = w.os
  tape : w'.tape = w.tape
  output : w'.output = w.output
  size : w.heap.size ≤ w'.heap.size
  block : ∀ k, k < B → ¬ own k → w'.heap[k]? = w.heap[k]?
theorem Kept.refl (own : Nat → Prop) (B : Nat) (w : World) : Kept own B w w := ⟨rfl, rfl, rfl, Nat.le_refl _, fun _ _ _ => rfl⟩
theorem Kept.trans {own own' own'' : Nat → Prop} {B : Nat} {a b c : World} (h : Kept own B a b) (k : Kept own' B b c)
    (h1 : ∀ k, k < B → own k → own'' k) (h2 : ∀ k, k < B → own' k → own'' k) : Kept own'' B a c :=
  ⟨k.os.trans h.os, k.tape.trans h.tape, k.output.trans h.output, Nat.le_trans h.size k.size,
    fun i hi ho => (k.block i hi fun e => ho (h2 i hi e)).trans (h.block i hi fun e => ho (h1 i hi e))⟩

/-- What may be read for good: the blocks that no live region has. -/
def okOf (rs : Regs) (φ : Phi) (b : Nat) : Prop := (∀ r g, look rs r = some g → (φ r).blk ≠ some b) ∧ φ.base b

structure RelF (cx : Cx) (φ : Phi) (st : St) (a : Act) (w : World) : Prop where
  size : a.tmps.size = st.tmps.length
  df : a.defers = []
  tm : ∀ i av, st.tmps[i]? = some av → AVRel st.regs φ (okOf st.regs φ) w av (a.tmps.getD i undef)
  rg : ∀ r g, look st.regs r = some g → g.at (okOf st.regs φ) w (φ r)
  sep : ∀ r r' g g' b, look st.regs r = some g → look st.regs r' = some g' → (φ r).blk = some b → (φ r').blk = some b → r = r'
  fr : ∀ r g b, look st.regs r = some g → (φ r).blk = some b → cx.B ≤ b ∨ cx.own b
  io : ∀ r l, (r, l) ∈ cx.io → (look st.regs r).isSome = true → φ r = l
  kp : Kept cx.own cx.B cx.w0 w
  hB : cx.B ≤ w.heap.size
  bs : ∀ b, φ.base b ↔ (cx.B ≤ b ∨ cx.own b ∨ cx.ro b)

def Rel (cx : Cx) (st : St) (a : Act) (w : World) : Prop := ∃ φ, RelF cx φ st a w

def Fresh (st : St) (n : Nat) : Prop := look st.regs n = none ∧ ∀ av, av ∈ st.tmps → ¬ av.mentions n

/-! ### The first lemmas -/

theorem VRel.mono {ok ok' : Nat → Prop} {w w' : World} (h : ∀ b o, ok b → w.heap[b]? = some o → ok' b ∧ w'.heap[b]? = some o)
    {t : Ty} {x : t.den} {v : Value} (hv : VRel ok w t x v) : VRel ok' w' t x v := ⟨Ty.rd_mono h _ _ _ hv.1, hv.2⟩

def SameKind (g g' : Reg) : Prop :=
  match g, g' with
  | .row t xs, .row t' xs' => t = t' ∧ xs.length = xs'.length
  | .box t _, .box t' _ => t = t'
  | .obox t (some _), .box t' _ => t = t'
  | .obox t o, .obox t' o' => t = t' ∧ o.isSome = o'.isSome
  | _, _ => False
theorem SameKind.refl (g : Reg) : SameKind g g := by
  cases g with
  | row t xs => exact ⟨rfl, rfl⟩
  | box t x => exact rfl
  | obox t o => cases o <;> exact ⟨rfl, rfl⟩

/-- A simple value stays what it is where its region stays what it is (in kind and length). -/
theorem SVRel.mono {rs rs' : Regs} {φ φ' : Phi} {ok ok' : Nat → Prop} {w w' : World} {x : SV} {v : Value}
    (h : ∀ b o, ok b → w.heap[b]? = some o → ok' b ∧ w'.heap[b]? = some o)
    (hl : ∀ r, x.mentions r → ∀ g', look rs' r = some g' → φ' r = φ r ∧ ∃ g, look rs r = some g ∧
      SameKind g g')
    (hv : SVRel rs φ ok w x v) : SVRel rs' φ' ok' w' x v := by
  cases x with
  | undef => trivial
  | val t x => exact VRel.mono h hv
  | nilsl => exact hv
  | nilp => exact hv
  | valn t x => exact ⟨VRel.mono h hv.1, hv.2⟩
  | nilq e neg => exact hv
  | ra t x =>
    obtain ⟨b, o, cs, ty, fz, e1, e2, e3, e4⟩ := hv
    exact ⟨b, o, cs, ty, fz, e1, (h _ _ e2 e3).1, (h _ _ e2 e3).2, Ty.rd_mono h _ _ _ e4⟩
  | sl r =>
    intro t xs hg
    obtain ⟨hφ, g, h1, h2⟩ := hl r rfl _ hg
    cases g with
    | row t0 xs0 =>
      obtain ⟨rfl, h3⟩ := h2
      have := hv _ _ h1
      rw [this, hφ, h3]
    | box _ _ => exact h2.elim
    | obox _ o => cases o <;> exact h2.elim
  | addr r p =>
    intro g' hg
    obtain ⟨hφ, g, h1, h2⟩ := hl r rfl _ hg
    have h3 := hv _ h1
    cases g with
    | row t0 xs0 =>
      cases g' with
      | row t' xs' =>
        obtain ⟨rfl, h4⟩ := h2
        obtain ⟨i, p', b, e1, e2, e3, e4, e5, e6⟩ := h3
        exact ⟨i, p', b, e1, e2, by omega, e4, hφ ▸ e5, by rw [e6, hφ]⟩
      | box _ _ => exact h2.elim
      | obox _ _ => exact h2.elim
    | box t0 x0 =>
      cases g' with
      | row _ _ => exact h2.elim
      | obox _ _ => exact h2.elim
      | box t' x' =>
        have h4 : t0 = t' := h2
        subst h4
        obtain ⟨b, e1, e2, e3⟩ := h3
        exact ⟨b, hφ ▸ e1, e2, e3⟩
    | obox t0 o0 =>
      cases g' with
      | row _ _ => cases o0 <;> exact h2.elim
      | obox t' o' =>
        obtain ⟨e1, e2, e3⟩ := h3
        have h4 : o0.isSome = o'.isSome := by cases o0 <;> exact h2.2
        exact ⟨e1, by rw [hφ, e2, h4], by rw [e3, hφ]⟩
      | box t' x' =>
        cases o0 with
        | none => exact h2.elim
        | some x0 =>
          have h4 : t0 = t' := h2
          subst h4
          obtain ⟨rfl, e2, e3⟩ := h3
          cases hb : (φ r).blk with
          | none => rw [hb] at e2; simp at e2
          | some b => exact ⟨b, by rw [hφ, hb], by simp [pok], by rw [e3, hb]; simp [poff]⟩

theorem All2.imp {α β : Type} {R S : α → β → Prop} {as : List α} {bs : List β} (h : All2 R as bs) (hi : ∀ a b, a ∈ as → R a b → S a b) : All2 S as bs := by
  induction h with
  | nil => exact .nil
  | cons h t ih => exact .cons (hi _ _ (by simp) h) (ih fun a b ha => hi a b (by simp [ha]))
theorem All2.length {α β : Type} {R : α → β → Prop} {as : List α} {bs : List β} (h : All2 R as bs) : as.length = bs.length := by
  induction h with
  | nil => rfl
  | cons h t ih => simp [ih]
theorem All2.get {α β : Type} {R : α → β → Prop} {as : List α} {bs : List β} (h : All2 R as bs) : ∀ (i : Nat) (a : α), as[i]? = some a → ∃ b, bs[i]? = some b ∧ R a b := by
  induction h with
  | nil => intro i a h; simp at h
  | cons h t ih =>
    intro i a ha
    cases i with
    | zero => simp at ha; subst ha; exact ⟨_, by simp, h⟩
    | succ i => simp at ha; obtain ⟨b, hb, hr⟩ := ih i a ha; exact ⟨b, by simpa using hb, hr⟩

theorem AVRel.mono {rs rs' : Regs} {φ φ' : Phi} {ok ok' : Nat → Prop} {w w' : World} {x : AV} {v : Value}
    (h : ∀ b o, ok b → w.heap[b]? = some o → ok' b ∧ w'.heap[b]? = some o)
    (hl : ∀ r, x.mentions r → ∀ g', look rs' r = some g' → φ' r = φ r ∧ ∃ g, look rs r = some g ∧ SameKind g g')
    (hv : AVRel rs φ ok w x v) : AVRel rs' φ' ok' w' x v := by
  cases x with
  | s x => exact SVRel.mono h hl hv
  | tup xs =>
    obtain ⟨vs, rfl, ha⟩ := hv
    exact ⟨vs, rfl, ha.imp fun a b hm hr => SVRel.mono h (fun r hr' => hl r ⟨a, hm, hr'⟩) hr⟩
  | fn f xs =>
    obtain ⟨vs, rfl, ha⟩ := hv
    exact ⟨vs, rfl, ha.imp fun a b hm hr => SVRel.mono h (fun r hr' => hl r ⟨a, hm, hr'⟩) hr⟩
  | gd k b want x => exact ⟨fun e => SVRel.mono h hl (hv.1 e), hv.2⟩

theorem Reg.at_mono {ok ok' : Nat → Prop} {w w' v v' : World} {l : Loc} {g : Reg} (h : ∀ b o, ok b → w.heap[b]? = some o → ok' b ∧ w'.heap[b]? = some o)
    (hb : ∀ b, l.blk = some b → v'.heap[b]? = v.heap[b]?) (hg : g.at2 ok w v l) : g.at2 ok' w' v' l := by
  cases g with
  | row t xs =>
    refine ⟨hg.1, ?_⟩
    have h2 := hg.2
    cases hbl : l.blk with
    | none => simp only [hbl] at h2 ⊢; exact h2
    | some b =>
      simp only [hbl] at h2 ⊢
      obtain ⟨cs, ty, fz, e1, e2, e3, e4⟩ := h2
      exact ⟨cs, ty, fz, (hb b hbl).trans e1, e2, e3, fun i hi => Ty.rd_mono h _ _ _ (e4 i hi)⟩
  | box t x =>
    obtain ⟨e0, b, cs, ty, fz, e1, e2, e3, e4, e5⟩ := hg
    exact ⟨e0, b, cs, ty, fz, e1, (hb b e1).trans e2, e3, e4, Ty.rd_mono h _ _ _ e5⟩
  | obox t o =>
    cases o with
    | none => exact hg
    | some x =>
      obtain ⟨e0, b, cs, ty, fz, e1, e2, e3, e4, e5⟩ := hg
      exact ⟨e0, b, cs, ty, fz, e1, (hb b e1).trans e2, e3, e4, Ty.rd_mono h _ _ _ e5⟩

/-- A region's block is there. -/
theorem Reg.at_block {ok : Nat → Prop} {w v : World} {l : Loc} {g : Reg} {b : Nat} (hg : g.at2 ok v w l) (hb : l.blk = some b) : b < w.heap.size := by
  have key : ∀ {o : Obj}, w.heap[b]? = some o → b < w.heap.size := fun h => by
    rcases Nat.lt_or_ge b w.heap.size with h1 | h1
    · exact h1
    · simp [Array.getElem?_eq_none h1] at h
  cases g with
  | row t xs =>
    have h2 := hg.2
    simp only [hb] at h2
    obtain ⟨cs, ty, fz, e1, _⟩ := h2
    exact key e1
  | box t x =>
    obtain ⟨_, b', cs, ty, fz, e1, e2, _⟩ := hg
    rw [hb] at e1; cases e1
    exact key e2
  | obox t o =>
    cases o with
    | none => simp only [Reg.at2, hb] at hg; cases hg
    | some x =>
      obtain ⟨_, b', cs, ty, fz, e1, e2, _⟩ := hg
      rw [hb] at e1; cases e1
      exact key e2

def St.put (st : St) (dst : Option Tmp) (v : AV) : St :=
  match dst with
  | some d => { st with tmps := st.tmps.set d v }
  | none => st
@[simp] theorem St.put_regs (st : St) (dst : Option Tmp) (v : AV) : (st.put dst v).regs = st.regs := by cases dst <;> rfl
@[simp] theorem St.put_next (st : St) (dst : Option Tmp) (v : AV) : (st.put dst v).next = st.next := by cases dst <;> rfl

theorem RelF.put {cx : Cx} {φ : Phi} {st : St} {a : Act} {w : World} (R : RelF cx φ st a w) {dst : Option Tmp} {av : AV} {v : Value}
    (hv : AVRel st.regs φ (okOf st.regs φ) w av v) : RelF cx φ (st.put dst av) (a.put dst v) w := by
  cases dst with
  | none => exact R
  | some d =>
    refine ⟨by simp [Act.put, St.put, R.size], R.df, ?_, R.rg, R.sep, R.fr, R.io, R.kp, R.hB, R.bs⟩
    intro i x hx
    simp only [St.put, Act.put] at hx ⊢
    rw [List.getElem?_set] at hx
    by_cases hdi : d = i
    · subst hdi
      rw [if_pos rfl] at hx
      split at hx
      · rename_i hlt
        cases hx
        have hlt' : d < a.tmps.size := by rw [R.size]; exact hlt
        have e : (a.tmps.setIfInBounds d v).getD d undef = v := by simp [hlt']
        rw [e]; exact hv
      · cases hx
    · rw [if_neg hdi] at hx
      have e : (a.tmps.setIfInBounds d v).getD i undef = a.tmps.getD i undef := by
        simp [Array.getElem?_setIfInBounds_ne hdi]
      rw [e]; exact R.tm i x hx

/-- A world that differs in what no cell tells. -/
theorem RelF.heap {cx : Cx} {φ : Phi} {st : St} {a : Act} {w w' : World} (R : RelF cx φ st a w) (hh : w'.heap = w.heap) (ho : w'.os = w.os)
    (ht : w'.tape = w.tape) (hu : w'.output = w.output) : RelF cx φ st a w' := by
  have hm : ∀ b o, okOf st.regs φ b → w.heap[b]? = some o → okOf st.regs φ b ∧ w'.heap[b]? = some o := fun b o h1 h2 => ⟨h1, by rw [hh]; exact h2⟩
  exact ⟨R.size, R.df, fun i av h => AVRel.mono hm (fun r _ g' hg => ⟨rfl, g', hg, SameKind.refl _⟩) (R.tm i av h),
    fun r g h => Reg.at_mono hm (fun b _ => by rw [hh]) (R.rg r g h), R.sep, R.fr, R.io,
    ⟨ho.trans R.kp.os, ht.trans R.kp.tape, hu.trans R.kp.output, by rw [hh]; exact R.kp.size, fun k hk ho => by rw [hh]; exact R.kp.block k hk ho⟩, by rw [hh]; exact R.hB, R.bs⟩

/-- Regions and the world change. -/
theorem RelF.change {cx : Cx} {φ φ' : Phi} {st : St} {a : Act} {w w' : World} {rs' : Regs} (R : RelF cx φ st a w)
    (hm : ∀ b o, okOf st.regs φ b → w.heap[b]? = some o → okOf rs' φ' b ∧ w'.heap[b]? = some o)
    (hl : ∀ r g', look rs' r = some g' → (∃ av ∈ st.tmps, av.mentions r) → φ' r = φ r ∧ ∃ g, look st.regs r = some g ∧ SameKind g g')
    (hg : ∀ r g', look rs' r = some g' → g'.at (okOf rs' φ') w' (φ' r))
    (sep : ∀ r r' g g' b, look rs' r = some g → look rs' r' = some g' → (φ' r).blk = some b → (φ' r').blk = some b → r = r')
    (fr : ∀ r g b, look rs' r = some g → (φ' r).blk = some b → cx.B ≤ b ∨ cx.own b)
    (io : ∀ r l, (r, l) ∈ cx.io → (look rs' r).isSome = true → φ' r = l)
    (kp : Kept cx.own cx.B w w') (hbase : φ'.base = φ.base) : RelF cx φ' { st with regs := rs' } a w' :=
  ⟨R.size, R.df, fun i av h => AVRel.mono hm (fun r hr g' hg => hl r g' hg ⟨av, List.mem_of_getElem? h, hr⟩) (R.tm i av h), hg, sep, fr, io,
    R.kp.trans kp (fun _ _ h => h) (fun _ _ h => h), Nat.le_trans R.hB kp.size, by rw [hbase]; exact R.bs⟩

def setLoc (φ : Phi) (n : Nat) (l : Loc) : Phi := ⟨fun r => if r = n then l else φ r, φ.base⟩
theorem setLoc_self (φ : Phi) (r : Nat) : setLoc φ r (φ r) = φ := by
  cases φ with
  | mk loc base =>
    simp only [setLoc]
    congr 1
    funext s
    split <;> simp_all
def without (rs : Regs) : Option Nat → Regs
  | none => rs
  | some r => drop rs r
theorem look_without (rs : Regs) (old : Option Nat) (s : Nat) : look (without rs old) s = if old = some s then none else look rs s := by
  cases old with
  | none => simp [without]
  | some r => simp only [without, look_drop, Option.some.injEq]

/-- One region is made, written, or takes another's place. -/
theorem RelF.step {cx : Cx} {φ : Phi} {st : St} {a : Act} {w w' : World} (R : RelF cx φ st a w) (old : Option Nat) (n : Nat) (g' : Reg) (l : Loc)
    (hblk : ∀ b, l.blk = some b → w.heap.size ≤ b ∨ ∃ r g, old = some r ∧ look st.regs r = some g ∧ (φ r).blk = some b)
    (hother : ∀ b, b < w.heap.size → l.blk ≠ some b → w'.heap[b]? = w.heap[b]?)
    (hn : Fresh st n ∨ (old = some n ∧ φ n = l ∧ ∃ g, look st.regs n = some g ∧ SameKind g g'))
    (hio : ∀ l0, (n, l0) ∈ cx.io → ¬ Fresh st n)
    (hat : g'.at2 (okOf st.regs φ) w w' l)
    (hos : w'.os = w.os) (htape : w'.tape = w.tape) (hout : w'.output = w.output) (hsize : w.heap.size ≤ w'.heap.size) :
    RelF cx (setLoc φ n l) { st with regs := upd (without st.regs old) n (some g') } a w' := by
  have hlook : ∀ s g, look (upd (without st.regs old) n (some g')) s = some g → (s = n ∧ g = g') ∨ (s ≠ n ∧ old ≠ some s ∧ look st.regs s = some g) := by
    intro s g h
    rw [look_upd] at h
    split at h
    · rename_i e; cases h; exact .inl ⟨e.symm, rfl⟩
    · rename_i e
      rw [look_without] at h
      split at h
      · cases h
      · rename_i e2; exact .inr ⟨fun e3 => e e3.symm, e2, h⟩
  -- a block of another region is not the new one
  have hne : ∀ s g b, s ≠ n → old ≠ some s → look st.regs s = some g → (φ s).blk = some b → l.blk ≠ some b := by
    intro s g b h1 h2 h3 h4 h5
    rcases hblk b h5 with h6 | ⟨r, g2, e1, e2, e3⟩
    · have := Reg.at_block (R.rg s g h3) h4; omega
    · have := R.sep s r g g2 b h3 e2 h4 e3
      subst this; exact h2 e1
  have hm : ∀ b o, okOf st.regs φ b → w.heap[b]? = some o → okOf (upd (without st.regs old) n (some g')) (setLoc φ n l) b ∧ w'.heap[b]? = some o := by
    intro b o hok hh
    have hlt : b < w.heap.size := by
      rcases Nat.lt_or_ge b w.heap.size with h1 | h1
      · exact h1
      · simp [Array.getElem?_eq_none h1] at hh
    have hlb : l.blk ≠ some b := by
      intro e
      rcases hblk b e with h6 | ⟨r, g2, e1, e2, e3⟩
      · omega
      · exact hok.1 r g2 e2 e3
    refine ⟨⟨?_, hok.2⟩, (hother b hlt hlb).trans hh⟩
    intro s g hs
    rcases hlook s g hs with ⟨e1, e2⟩ | ⟨e1, e2, e3⟩
    · subst e1; simp only [setLoc, if_pos]; exact hlb
    · simp only [setLoc, if_neg e1]; exact hok.1 s g e3
  refine R.change (w' := w') hm ?_ ?_ ?_ ?_ ?_ ?_ rfl
  · intro r g hg hmen
    rcases hlook r g hg with ⟨e1, e2⟩ | ⟨e1, e2, e3⟩
    · subst e1; subst e2
      rcases hn with hf | ⟨_, h2, h3⟩
      · obtain ⟨av, hav, hme⟩ := hmen
        exact (hf.2 av hav hme).elim
      · exact ⟨by simp [setLoc, h2], h3⟩
    · exact ⟨by simp [setLoc, e1], g, e3, SameKind.refl g⟩
  · intro r g hg
    rcases hlook r g hg with ⟨e1, e2⟩ | ⟨e1, e2, e3⟩
    · subst e1; subst e2
      have : setLoc φ r l r = l := by simp [setLoc]
      rw [this]
      exact Reg.at_mono hm (fun _ _ => rfl) hat
    · have : setLoc φ n l r = φ r := by simp [setLoc, e1]
      rw [this]
      refine Reg.at_mono hm (fun b hb => hother b (Reg.at_block (R.rg r g e3) hb) (hne r g b e1 e2 e3 hb)) (R.rg r g e3)
  · intro r r' g g2 b h1 h2 h3 h4
    rcases hlook r g h1 with ⟨e1, _⟩ | ⟨e1, e2, e3⟩ <;> rcases hlook r' g2 h2 with ⟨f1, _⟩ | ⟨f1, f2, f3⟩
    · rw [e1, f1]
    · subst e1
      simp only [setLoc, if_pos, if_neg f1] at h3 h4
      exact (hne r' g2 b f1 f2 f3 h4 h3).elim
    · subst f1
      simp only [setLoc, if_pos, if_neg e1] at h3 h4
      exact (hne r g b e1 e2 e3 h3 h4).elim
    · simp only [setLoc, if_neg e1, if_neg f1] at h3 h4
      exact R.sep r r' g g2 b e3 f3 h3 h4
  · intro r g b h1 h2
    rcases hlook r g h1 with ⟨e1, _⟩ | ⟨e1, e2, e3⟩
    · subst e1
      simp only [setLoc, if_pos] at h2
      rcases hblk b h2 with h6 | ⟨r2, g2, f1, f2, f3⟩
      · have := R.hB; left; omega
      · exact R.fr r2 g2 b f2 f3
    · simp only [setLoc, if_neg e1] at h2
      exact R.fr r g b e3 h2
  · intro r l0 h1 h2
    obtain ⟨g, hg⟩ := Option.isSome_iff_exists.1 h2
    rcases hlook r g hg with ⟨e1, _⟩ | ⟨e1, e2, e3⟩
    · subst e1
      rcases hn with hf | ⟨_, h2, g0, h3, _⟩
      · exact (hio l0 h1 hf).elim
      · simp only [setLoc, if_pos]
        rw [← h2]; exact R.io r l0 h1 (by simp [h3])
    · simp only [setLoc, if_neg e1]
      exact R.io r l0 h1 (by simp [e3])
  · refine ⟨hos, htape, hout, hsize, fun k hk hown => ?_⟩
    refine hother k (by have := R.hB; omega) (fun e => ?_)
    rcases hblk k e with h6 | ⟨r2, g2, f1, f2, f3⟩
    · have := R.hB; omega
    · rcases R.fr r2 g2 k f2 f3 with h7 | h7
      · omega
      · exact hown h7

end Go.Lift
