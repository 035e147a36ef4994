/- Lines for the functions of this seat; merged from texts of their own. -/
import Derived.Orders
import Derived.Below
import Derived.KernelRfl
import Derived.Laws.Entries
import Derived.Laws.Cells
import Derived.Laws.MakeOwn
import Derived.Laws.IdiomCopy
import Derived.Laws.BytesArg
import Derived.Laws.IdiomStrings
set_option linter.unusedVariables false
set_option linter.unusedSimpArgs false
/- The value side of a verified abstract interpreter: types, what they denote, how a value of a type reads in memory, paths into it. -/
namespace Go.Lift
open Go

inductive Ty where
  | int (k : IntKind)
  | bool
  | str
  | unit
  | ro (t : Ty)
  | pair (a b : Ty)
  | arr (n : Nat) (t : Ty)
  deriving DecidableEq

@[reducible] def Ty.den : Ty → Type
  | .int _ => Int
  | .bool => Bool
  | .str => ByteArray
  | .unit => Unit
  | .ro t => List t.den
  | .pair a b => a.den × b.den
  | .arr _ t => List t.den

def Ty.dflt : (t : Ty) → t.den
  | .int _ => (0 : Int)
  | .bool => false
  | .str => ByteArray.empty
  | .unit => ()
  | .ro _ => []
  | .pair a b => (a.dflt, b.dflt)
  | .arr n t => List.replicate n t.dflt

def Ty.sz : Ty → Nat
  | .int _ => 1
  | .bool => 1
  | .str => 1
  | .unit => 0
  | .ro _ => 1
  | .pair a b => a.sz + b.sz
  | .arr n t => n * t.sz

def Ty.agg : Ty → Bool
  | .pair _ _ => true
  | .arr _ _ => true
  | .unit => true
  | _ => false

def castTy (t u : Ty) (x : t.den) : Option u.den := if h : t = u then some (h ▸ x) else none
theorem castTy_self (t : Ty) (x : t.den) : castTy t t x = some x := by simp [castTy]
theorem castTy_some {t u : Ty} {x : t.den} {y : u.den} (h : castTy t u x = some y) : ∃ e : t = u, e ▸ x = y := by
  unfold castTy at h
  split at h
  · rename_i e; exact ⟨e, by simpa using h⟩
  · cases h

/-- How a value of a type reads at cells. -/
def Ty.rd (ok : Nat → Prop) (w : World) : (t : Ty) → t.den → (Nat → Option Value) → Prop
  | .int k, x, c => c 0 = some (.int k x)
  | .bool, x, c => c 0 = some (.bool x)
  | .str, x, c => c 0 = some (.string x)
  | .unit, _, _ => True
  | .ro t, xs, c => ∃ a cap, c 0 = some (.slice a (List.length xs) cap) ∧ List.length xs ≤ cap ∧
      (xs = [] ∨ ∃ b off cs ty fz, a = some ⟨b, off, none⟩ ∧ ok b ∧ w.heap[b]? = some (.cells cs ty fz) ∧
        ∀ i (h : i < List.length xs), t.rd ok w (xs[i]'h) (fun j => cs[off + i * t.sz + j]?))
  | .pair a b, x, c => a.rd ok w x.1 c ∧ b.rd ok w x.2 (fun j => c (a.sz + j))
  | .arr n t, xs, c => List.length xs = n ∧ ∀ i (h : i < List.length xs), t.rd ok w (xs[i]'h) (fun j => c (i * t.sz + j))

theorem Ty.rd_mono {ok ok' : Nat → Prop} {w w' : World} (h : ∀ b o, ok b → w.heap[b]? = some o → ok' b ∧ w'.heap[b]? = some o) :
    ∀ (t : Ty) (x : t.den) (c : Nat → Option Value), t.rd ok w x c → t.rd ok' w' x c := by
  intro t
  induction t with
  | int k => intro x c hr; exact hr
  | bool => intro x c hr; exact hr
  | str => intro x c hr; exact hr
  | unit => intro x c hr; exact hr
  | ro t ih =>
    intro xs c hr
    obtain ⟨a, cap, h0, h1, h2⟩ := hr
    refine ⟨a, cap, h0, h1, ?_⟩
    rcases h2 with h2 | ⟨b, off, cs, ty, fz, ha, hok, hh, he⟩
    · exact .inl h2
    · exact .inr ⟨b, off, cs, ty, fz, ha, (h _ _ hok hh).1, (h _ _ hok hh).2, fun i hi => ih _ _ (he i hi)⟩
  | pair a b iha ihb => intro x c hr; exact ⟨iha _ _ hr.1, ihb _ _ hr.2⟩
  | arr n t ih => intro xs c hr; exact ⟨hr.1, fun i hi => ih _ _ (hr.2 i hi)⟩

theorem mul_lt_of {i n s j : Nat} (hi : i < n) (hj : j < s) : i * s + j < n * s := by
  have : (i + 1) * s ≤ n * s := Nat.mul_le_mul_right _ hi
  rw [Nat.add_mul] at this
  omega

theorem Ty.rd_congr {ok : Nat → Prop} {w : World} :
    ∀ (t : Ty) (x : t.den) (c c' : Nat → Option Value), (∀ j, j < t.sz → c j = c' j) → t.rd ok w x c → t.rd ok w x c' := by
  intro t
  induction t with
  | int k => intro x c c' h hr; exact (h 0 (by simp [Ty.sz])).symm.trans hr
  | bool => intro x c c' h hr; exact (h 0 (by simp [Ty.sz])).symm.trans hr
  | str => intro x c c' h hr; exact (h 0 (by simp [Ty.sz])).symm.trans hr
  | unit => intro x c c' h hr; exact hr
  | ro t ih =>
    intro xs c c' h hr
    obtain ⟨a, cap, h0, h1, h2⟩ := hr
    exact ⟨a, cap, (h 0 (by simp [Ty.sz])).symm.trans h0, h1, h2⟩
  | pair a b iha ihb =>
    intro x c c' h hr
    exact ⟨iha _ _ _ (fun j hj => h j (by simp [Ty.sz]; omega)) hr.1, ihb _ _ _ (fun j hj => h _ (by simp [Ty.sz]; omega)) hr.2⟩
  | arr n t ih =>
    intro xs c c' h hr
    refine ⟨hr.1, fun i hi => ih _ _ _ (fun j hj => h _ ?_) (hr.2 i hi)⟩
    have hn := hr.1
    simp only [Ty.sz]
    exact mul_lt_of (by omega) hj

/-! ### Paths -/

inductive Step where
  | fst
  | snd
  | idx (i : Int)

def pty : Ty → List Step → Option Ty
  | t, [] => some t
  | .pair a _, .fst :: p => pty a p
  | .pair _ b, .snd :: p => pty b p
  | .arr _ t, .idx _ :: p => pty t p
  | _, _ => none

def poff : Ty → List Step → Nat
  | _, [] => 0
  | .pair a _, .fst :: p => poff a p
  | .pair a b, .snd :: p => a.sz + poff b p
  | .arr _ t, .idx i :: p => i.toNat * t.sz + poff t p
  | _, _ => 0

def pok : Ty → List Step → Prop
  | _, [] => True
  | .pair a _, .fst :: p => pok a p
  | .pair _ b, .snd :: p => pok b p
  | .arr n t, .idx i :: p => 0 ≤ i ∧ i < (n : Int) ∧ pok t p
  | _, _ => False

def pget : (t : Ty) → t.den → List Step → (u : Ty) → Option u.den
  | t, x, [], u => castTy t u x
  | .pair a _, x, .fst :: p, u => pget a x.1 p u
  | .pair _ b, x, .snd :: p, u => pget b x.2 p u
  | .arr _ t, x, .idx i :: p, u => pget t (List.getD x i.toNat t.dflt) p u
  | _, _, _, _ => none

def pset : (t : Ty) → t.den → List Step → (u : Ty) → u.den → Option t.den
  | t, _, [], u, y => castTy u t y
  | .pair a b, x, .fst :: p, u, y => (pset a x.1 p u y).map (fun z => ((z, x.2) : (Ty.pair a b).den))
  | .pair a b, x, .snd :: p, u, y => (pset b x.2 p u y).map (fun z => ((x.1, z) : (Ty.pair a b).den))
  | .arr n t, x, .idx i :: p, u, y => (pset t (List.getD x i.toNat t.dflt) p u y).map (fun z => (List.set x i.toNat z : (Ty.arr n t).den))
  | _, _, _, _, _ => none

theorem pget_pty : ∀ (p : List Step) (t : Ty) (x : t.den) (u : Ty) (y : u.den), pget t x p u = some y → pty t p = some u := by
  intro p
  induction p with
  | nil => intro t x u y h; obtain ⟨e, _⟩ := castTy_some (by simpa [pget] using h); subst e; simp [pty]
  | cons s p ih =>
    intro t x u y h
    cases t <;> cases s <;> simp only [pget, pty] at h ⊢ <;> first | exact ih _ _ _ _ h | cases h

theorem pset_pty : ∀ (p : List Step) (t : Ty) (x : t.den) (u : Ty) (y : u.den) (x' : t.den), pset t x p u y = some x' → pty t p = some u := by
  intro p
  induction p with
  | nil => intro t x u y x' h; obtain ⟨e, _⟩ := castTy_some (by simpa [pset] using h); subst e; simp [pty]
  | cons s p ih =>
    intro t x u y x' h
    cases t <;> cases s <;> simp only [pset, pty] at h ⊢ <;> first | (cases h; done) | (rw [Option.map_eq_some_iff] at h; obtain ⟨z, hz, _⟩ := h; exact ih _ _ _ _ _ hz)

theorem poff_le : ∀ (p : List Step) (t u : Ty), pok t p → pty t p = some u → poff t p + u.sz ≤ t.sz := by
  intro p
  induction p with
  | nil => intro t u _ h; simp only [pty, Option.some.injEq] at h; subst h; simp [poff]
  | cons s p ih =>
    intro t u hok h
    cases t <;> cases s <;> simp only [pty, pok, poff, Ty.sz] at hok h ⊢ <;> try (cases h; done)
    · have := ih _ _ hok h; omega
    · have := ih _ _ hok h; omega
    · rename_i n t i
      obtain ⟨h0, h1, h2⟩ := hok
      have := ih _ _ h2 h
      have h3 : (i.toNat + 1) * t.sz ≤ n * t.sz := Nat.mul_le_mul_right _ (by omega)
      rw [Nat.add_mul] at h3
      omega

theorem rd_pget {ok : Nat → Prop} {w : World} : ∀ (p : List Step) (t : Ty) (x : t.den) (c : Nat → Option Value) (u : Ty) (y : u.den),
    t.rd ok w x c → pok t p → pget t x p u = some y → u.rd ok w y (fun j => c (poff t p + j)) := by
  intro p
  induction p with
  | nil =>
    intro t x c u y hr _ h
    obtain ⟨e, he⟩ := castTy_some (by simpa [pget] using h)
    subst e; subst he
    simpa [poff] using hr
  | cons s p ih =>
    intro t x c u y hr hok h
    cases t <;> cases s <;> simp only [pget, pok, poff] at hok h ⊢ <;> try (cases h; done)
    · exact ih _ _ _ _ _ hr.1 hok h
    · have := ih _ _ _ _ _ hr.2 hok h
      simpa only [Nat.add_assoc] using this
    · rename_i n t i
      obtain ⟨h0, h1, h2⟩ := hok
      have hn := hr.1
      have hi : i.toNat < List.length x := by omega
      have e : List.getD x i.toNat t.dflt = x[i.toNat] := by simp [List.getD, List.getElem?_eq_getElem hi]
      rw [e] at h
      have := ih _ _ _ _ _ (hr.2 i.toNat hi) h2 h
      simpa only [Nat.add_assoc] using this

theorem rd_pset {ok : Nat → Prop} {w : World} : ∀ (p : List Step) (t : Ty) (x : t.den) (c c2 : Nat → Option Value) (u : Ty) (y : u.den) (x' : t.den) (c' : Nat → Option Value),
    t.rd ok w x c → pok t p → pset t x p u y = some x' → u.rd ok w y c' →
    (∀ j, j < poff t p ∨ poff t p + u.sz ≤ j → c2 j = c j) → (∀ j, j < u.sz → c2 (poff t p + j) = c' j) → t.rd ok w x' c2 := by
  intro p
  induction p with
  | nil =>
    intro t x c c2 u y x' c' hr _ h hy _ h2
    obtain ⟨e, he⟩ := castTy_some (by simpa [pset] using h)
    subst e; subst he
    exact Ty.rd_congr _ _ _ _ (fun j hj => by have := h2 j hj; simp [poff] at this; exact this.symm) hy
  | cons s p ih =>
    intro t x c c2 u y x' c' hr hok h hy h1 h2
    have hpt := pset_pty _ _ _ _ _ _ h
    cases t <;> cases s <;> simp only [pset, pok, poff, pty] at hok h h1 h2 hpt <;> try (cases h; done)
    · rename_i a b
      rw [Option.map_eq_some_iff] at h
      obtain ⟨z, hz, rfl⟩ := h
      have hb := poff_le p a u hok hpt
      refine ⟨ih _ _ _ _ _ _ _ _ hr.1 hok hz hy h1 h2, Ty.rd_congr _ _ _ _ (fun j _ => (h1 _ (by omega)).symm) hr.2⟩
    · rename_i a b
      rw [Option.map_eq_some_iff] at h
      obtain ⟨z, hz, rfl⟩ := h
      refine ⟨Ty.rd_congr _ _ _ _ (fun j hj => (h1 _ (by omega)).symm) hr.1, ?_⟩
      refine ih _ _ _ _ _ _ _ _ hr.2 hok hz hy (fun j hj => h1 _ (by omega)) (fun j hj => ?_)
      have := h2 j hj
      simpa only [Nat.add_assoc] using this
    · rename_i n t i
      obtain ⟨h0, h3, h4⟩ := hok
      rw [Option.map_eq_some_iff] at h
      obtain ⟨z, hz, rfl⟩ := h
      have hn := hr.1
      have hi : i.toNat < List.length x := by omega
      have e : List.getD x i.toNat t.dflt = x[i.toNat] := by simp [List.getD, List.getElem?_eq_getElem hi]
      have hb := poff_le p t u h4 hpt
      rw [e] at hz
      refine ⟨by simpa using hn, fun k hk => ?_⟩
      have hk' : k < List.length x := by simpa using hk
      by_cases hki : k = i.toNat
      · subst hki
        have : (List.set x i.toNat z)[i.toNat]'hk = z := by simp
        rw [this]
        refine ih _ _ _ _ _ _ _ _ (hr.2 i.toNat hi) h4 hz hy (fun j hj => h1 _ (by omega)) (fun j hj => ?_)
        have := h2 j hj
        simpa only [Nat.add_assoc] using this
      · have : (List.set x i.toNat z)[k]'hk = x[k] := by
          rw [List.getElem_set_ne (by omega)]
        rw [this]
        refine Ty.rd_congr _ _ _ _ (fun j hj => (h1 _ ?_).symm) (hr.2 k hk')
        rcases Nat.lt_or_gt_of_ne hki with hlt | hgt
        · left
          have h5 : (k + 1) * t.sz ≤ i.toNat * t.sz := Nat.mul_le_mul_right _ hlt
          rw [Nat.add_mul] at h5
          omega
        · right
          have h5 : (i.toNat + 1) * t.sz ≤ k * t.sz := Nat.mul_le_mul_right _ hgt
          rw [Nat.add_mul] at h5
          omega

end Go.Lift
/- The abstract state, and how it stands to the machine's. -/
namespace Go.Lift
open Go

inductive SV where
  | undef
  | val (t : Ty) (x : t.den)
  | sl (r : Nat)
  | addr (r : Nat) (p : List Step)
  | ra (t : Ty) (x : t.den)         -- the address of what is not written any more
  | nilsl
  | nilp
  | valn (t : Ty) (xs : List t.den)   -- a slice that is read only, nil if it is empty
  | nilq (e neg : Bool)               -- whether a slice (empty: e) is nil (neg: is not)

inductive AV where
  | s (v : SV)
  | tup (vs : List SV)
  | fn (f : FuncId) (caps : List SV)
  | gd (key : List (Nat × Bool)) (b want : Bool) (v : SV)

inductive Reg where
  | row (t : Ty) (xs : List t.den)
  | box (t : Ty) (x : t.den)
  | obox (t : Ty) (x : Option t.den)

abbrev Regs := List (Nat × Reg)
def look : Regs → Nat → Option Reg
  | [], _ => none
  | (k, g) :: rs, r => if k = r then some g else look rs r
def drop : Regs → Nat → Regs
  | [], _ => []
  | (k, g) :: rs, r => if k = r then drop rs r else (k, g) :: drop rs r
def upd (rs : Regs) (r : Nat) : Option Reg → Regs
  | none => drop rs r
  | some g => (r, g) :: drop rs r
theorem look_drop (rs : Regs) (r s : Nat) : look (drop rs r) s = if r = s then none else look rs s := by
  induction rs with
  | nil => simp [look, drop]
  | cons kg rs ih =>
    obtain ⟨k, g⟩ := kg
    simp only [drop]
    split
    · rename_i h; subst h; rw [ih]; simp only [look]; split <;> rfl
    · rename_i h; simp only [look]; rw [ih]; split
      · rename_i h2; subst h2; rw [if_neg (fun e => h e.symm)]
      · rfl
theorem look_upd (rs : Regs) (r s : Nat) (g : Option Reg) : look (upd rs r g) s = if r = s then g else look rs s := by
  cases g with
  | none => simp only [upd, look_drop]
  | some g => simp only [upd, look, look_drop]; split <;> rfl

structure Loc where
  blk : Option Nat
  off : Nat
  cap : Nat
def Loc.addr (l : Loc) : Option Addr := l.blk.map fun b => ⟨b, l.off, none⟩

/-- Where the regions lie; what may be read at all. -/
structure Phi where
  loc : Nat → Loc
  base : Nat → Prop
instance : CoeFun Phi (fun _ => Nat → Loc) := ⟨Phi.loc⟩

/-- None of the first n cells is frozen. -/
def Thawed (fz : Nat × Nat) (n : Nat) : Prop := ∀ i, i < n → (decide (fz.1 ≤ i) && decide (i < fz.2)) = false

def Value.isAgg : Value → Bool
  | .agg _ => true
  | _ => false
def VRel (ok : Nat → Prop) (w : World) (t : Ty) (x : t.den) (v : Value) : Prop :=
  t.rd ok w x (fun j => v.cells[j]?) ∧ v.cells.size = t.sz ∧ Value.isAgg v = t.agg

/-- A region at its place: the parts read in w, the block itself in w'. -/
def Reg.at2 (ok : Nat → Prop) (w w' : World) (l : Loc) : Reg → Prop
  | .row t xs => xs.length ≤ l.cap ∧
      match l.blk with
      | none => l.cap = 0
      | some b => ∃ cs ty fz, w'.heap[b]? = some (.cells cs ty fz) ∧ Thawed fz cs.size ∧ l.off + l.cap * t.sz ≤ cs.size ∧
          ∀ i (h : i < xs.length), t.rd ok w xs[i] (fun j => cs[l.off + i * t.sz + j]?)
  | .box t x => l.off = 0 ∧ ∃ b cs ty fz, l.blk = some b ∧ w'.heap[b]? = some (.cells cs ty fz) ∧ Thawed fz cs.size ∧ cs.size = t.sz ∧ t.rd ok w x (fun j => cs[j]?)
  | .obox t o => match o with
      | none => l.blk = none
      | some x => l.off = 0 ∧ ∃ b cs ty fz, l.blk = some b ∧ w'.heap[b]? = some (.cells cs ty fz) ∧ Thawed fz cs.size ∧ cs.size = t.sz ∧ t.rd ok w x (fun j => cs[j]?)
abbrev Reg.at (ok : Nat → Prop) (w : World) (l : Loc) (g : Reg) : Prop := g.at2 ok w w l

/-- What an address says. -/
def addrRel (φ : Phi) (r : Nat) (p : List Step) (v : Value) : Reg → Prop
  | .row t xs => ∃ i p' b, p = .idx i :: p' ∧ 0 ≤ i ∧ i < (xs.length : Int) ∧ pok t p' ∧ (φ r).blk = some b ∧
      v = .pointer (some ⟨b, (φ r).off + i.toNat * t.sz + poff t p', none⟩)
  | .box t _ => ∃ b, (φ r).blk = some b ∧ pok t p ∧ v = .pointer (some ⟨b, poff t p, none⟩)
  | .obox _ o => p = [] ∧ (φ r).blk.isSome = o.isSome ∧ v = .pointer ((φ r).blk.map fun b => ⟨b, 0, none⟩)

def SVRel (rs : Regs) (φ : Phi) (ok : Nat → Prop) (w : World) : SV → Value → Prop
  | .undef, _ => True
  | .val t x, v => VRel ok w t x v
  | .sl r, v => ∀ t xs, look rs r = some (.row t xs) → v = .slice (φ r).addr xs.length (φ r).cap
  | .addr r p, v => ∀ g, look rs r = some g → addrRel φ r p v g
  | .nilsl, v => v = .slice none 0 0
  | .nilp, v => v = .pointer none
  | .valn t xs, v => VRel ok w (.ro t) xs v ∧ (xs = [] → v = .slice none 0 0)
  | .nilq e neg, v => ∃ c, v = .bool c ∧ ((c != neg) = true → e = true)
  | .ra t x, v => ∃ b o cs ty fz, v = .pointer (some ⟨b, o, none⟩) ∧ ok b ∧ w.heap[b]? = some (.cells cs ty fz) ∧ t.rd ok w x (fun j => cs[o + j]?)

/-- Two lists, element by element. -/
inductive All2 {α β : Type} (R : α → β → Prop) : List α → List β → Prop where
  | nil : All2 R [] []
  | cons {a b as bs} (h : R a b) (t : All2 R as bs) : All2 R (a :: as) (b :: bs)

def AVRel (rs : Regs) (φ : Phi) (ok : Nat → Prop) (w : World) : AV → Value → Prop
  | .s x, v => SVRel rs φ ok w x v
  | .tup xs, v => ∃ vs : Array Value, v = .tuple vs ∧ All2 (SVRel rs φ ok w) xs vs.toList
  | .fn f caps, v => ∃ cs : Array Value, v = .func (.func f) #[] cs ∧ All2 (SVRel rs φ ok w) caps cs.toList
  | .gd _ b want x, v => (b = want → SVRel rs φ ok w x v) ∧ (¬ b = want → v = undef)

def SV.mentions (n : Nat) : SV → Prop
  | .sl r => r = n
  | .addr r _ => r = n
  | _ => False
def AV.mentions (n : Nat) : AV → Prop
  | .s v => v.mentions n
  | .tup vs => ∃ v ∈ vs, v.mentions n
  | .fn _ vs => ∃ v ∈ vs, v.mentions n
  | .gd _ _ _ v => v.mentions n

structure St where
  tmps : List AV
  regs : Regs
  next : Nat

structure Cx where
  P : Program
  B : Nat
  w0 : World
  io : List (Nat × Loc)
  ro : Nat → Prop
def Cx.own (cx : Cx) (b : Nat) : Prop := ∃ r l, (r, l) ∈ cx.io ∧ l.blk = some b

structure Kept (own : Nat → Prop) (B : Nat) (w w' : World) : Prop where
  os : w'.os = w.os
  tape : w'.tape = w.tape
  output : w'.output = w.output
  size : w.heap.size ≤ w'.heap.size
  block : ∀ k, k < B → ¬ own k → w'.heap[k]? = w.heap[k]?
theorem Kept.refl (own : Nat → Prop) (B : Nat) (w : World) : Kept own B w w := ⟨rfl, rfl, rfl, Nat.le_refl _, fun _ _ _ => rfl⟩
theorem Kept.trans {own own' own'' : Nat → Prop} {B : Nat} {a b c : World} (h : Kept own B a b) (k : Kept own' B b c)
    (h1 : ∀ k, k < B → own k → own'' k) (h2 : ∀ k, k < B → own' k → own'' k) : Kept own'' B a c :=
  ⟨k.os.trans h.os, k.tape.trans h.tape, k.output.trans h.output, Nat.le_trans h.size k.size,
    fun i hi ho => (k.block i hi fun e => ho (h2 i hi e)).trans (h.block i hi fun e => ho (h1 i hi e))⟩

/-- What may be read for good: the blocks that no live region has. -/
def okOf (rs : Regs) (φ : Phi) (b : Nat) : Prop := (∀ r g, look rs r = some g → (φ r).blk ≠ some b) ∧ φ.base b

structure RelF (cx : Cx) (φ : Phi) (st : St) (a : Act) (w : World) : Prop where
  size : a.tmps.size = st.tmps.length
  df : a.defers = []
  tm : ∀ i av, st.tmps[i]? = some av → AVRel st.regs φ (okOf st.regs φ) w av (a.tmps.getD i undef)
  rg : ∀ r g, look st.regs r = some g → g.at (okOf st.regs φ) w (φ r)
  sep : ∀ r r' g g' b, look st.regs r = some g → look st.regs r' = some g' → (φ r).blk = some b → (φ r').blk = some b → r = r'
  fr : ∀ r g b, look st.regs r = some g → (φ r).blk = some b → cx.B ≤ b ∨ cx.own b
  io : ∀ r l, (r, l) ∈ cx.io → (look st.regs r).isSome = true → φ r = l
  kp : Kept cx.own cx.B cx.w0 w
  hB : cx.B ≤ w.heap.size
  bs : ∀ b, φ.base b ↔ (cx.B ≤ b ∨ cx.own b ∨ cx.ro b)

def Rel (cx : Cx) (st : St) (a : Act) (w : World) : Prop := ∃ φ, RelF cx φ st a w

def Fresh (st : St) (n : Nat) : Prop := look st.regs n = none ∧ ∀ av, av ∈ st.tmps → ¬ av.mentions n

/-! ### The first lemmas -/

theorem VRel.mono {ok ok' : Nat → Prop} {w w' : World} (h : ∀ b o, ok b → w.heap[b]? = some o → ok' b ∧ w'.heap[b]? = some o)
    {t : Ty} {x : t.den} {v : Value} (hv : VRel ok w t x v) : VRel ok' w' t x v := ⟨Ty.rd_mono h _ _ _ hv.1, hv.2⟩

def SameKind (g g' : Reg) : Prop :=
  match g, g' with
  | .row t xs, .row t' xs' => t = t' ∧ xs.length = xs'.length
  | .box t _, .box t' _ => t = t'
  | .obox t (some _), .box t' _ => t = t'
  | .obox t o, .obox t' o' => t = t' ∧ o.isSome = o'.isSome
  | _, _ => False
theorem SameKind.refl (g : Reg) : SameKind g g := by
  cases g with
  | row t xs => exact ⟨rfl, rfl⟩
  | box t x => exact rfl
  | obox t o => cases o <;> exact ⟨rfl, rfl⟩

/-- A simple value stays what it is where its region stays what it is (in kind and length). -/
theorem SVRel.mono {rs rs' : Regs} {φ φ' : Phi} {ok ok' : Nat → Prop} {w w' : World} {x : SV} {v : Value}
    (h : ∀ b o, ok b → w.heap[b]? = some o → ok' b ∧ w'.heap[b]? = some o)
    (hl : ∀ r, x.mentions r → ∀ g', look rs' r = some g' → φ' r = φ r ∧ ∃ g, look rs r = some g ∧
      SameKind g g')
    (hv : SVRel rs φ ok w x v) : SVRel rs' φ' ok' w' x v := by
  cases x with
  | undef => trivial
  | val t x => exact VRel.mono h hv
  | nilsl => exact hv
  | nilp => exact hv
  | valn t x => exact ⟨VRel.mono h hv.1, hv.2⟩
  | nilq e neg => exact hv
  | ra t x =>
    obtain ⟨b, o, cs, ty, fz, e1, e2, e3, e4⟩ := hv
    exact ⟨b, o, cs, ty, fz, e1, (h _ _ e2 e3).1, (h _ _ e2 e3).2, Ty.rd_mono h _ _ _ e4⟩
  | sl r =>
    intro t xs hg
    obtain ⟨hφ, g, h1, h2⟩ := hl r rfl _ hg
    cases g with
    | row t0 xs0 =>
      obtain ⟨rfl, h3⟩ := h2
      have := hv _ _ h1
      rw [this, hφ, h3]
    | box _ _ => exact h2.elim
    | obox _ o => cases o <;> exact h2.elim
  | addr r p =>
    intro g' hg
    obtain ⟨hφ, g, h1, h2⟩ := hl r rfl _ hg
    have h3 := hv _ h1
    cases g with
    | row t0 xs0 =>
      cases g' with
      | row t' xs' =>
        obtain ⟨rfl, h4⟩ := h2
        obtain ⟨i, p', b, e1, e2, e3, e4, e5, e6⟩ := h3
        exact ⟨i, p', b, e1, e2, by omega, e4, hφ ▸ e5, by rw [e6, hφ]⟩
      | box _ _ => exact h2.elim
      | obox _ _ => exact h2.elim
    | box t0 x0 =>
      cases g' with
      | row _ _ => exact h2.elim
      | obox _ _ => exact h2.elim
      | box t' x' =>
        have h4 : t0 = t' := h2
        subst h4
        obtain ⟨b, e1, e2, e3⟩ := h3
        exact ⟨b, hφ ▸ e1, e2, e3⟩
    | obox t0 o0 =>
      cases g' with
      | row _ _ => cases o0 <;> exact h2.elim
      | obox t' o' =>
        obtain ⟨e1, e2, e3⟩ := h3
        have h4 : o0.isSome = o'.isSome := by cases o0 <;> exact h2.2
        exact ⟨e1, by rw [hφ, e2, h4], by rw [e3, hφ]⟩
      | box t' x' =>
        cases o0 with
        | none => exact h2.elim
        | some x0 =>
          have h4 : t0 = t' := h2
          subst h4
          obtain ⟨rfl, e2, e3⟩ := h3
          cases hb : (φ r).blk with
          | none => rw [hb] at e2; simp at e2
          | some b => exact ⟨b, by rw [hφ, hb], by simp [pok], by rw [e3, hb]; simp [poff]⟩

theorem All2.imp {α β : Type} {R S : α → β → Prop} {as : List α} {bs : List β} (h : All2 R as bs) (hi : ∀ a b, a ∈ as → R a b → S a b) : All2 S as bs := by
  induction h with
  | nil => exact .nil
  | cons h t ih => exact .cons (hi _ _ (by simp) h) (ih fun a b ha => hi a b (by simp [ha]))
theorem All2.length {α β : Type} {R : α → β → Prop} {as : List α} {bs : List β} (h : All2 R as bs) : as.length = bs.length := by
  induction h with
  | nil => rfl
  | cons h t ih => simp [ih]
theorem All2.get {α β : Type} {R : α → β → Prop} {as : List α} {bs : List β} (h : All2 R as bs) : ∀ (i : Nat) (a : α), as[i]? = some a → ∃ b, bs[i]? = some b ∧ R a b := by
  induction h with
  | nil => intro i a h; simp at h
  | cons h t ih =>
    intro i a ha
    cases i with
    | zero => simp at ha; subst ha; exact ⟨_, by simp, h⟩
    | succ i => simp at ha; obtain ⟨b, hb, hr⟩ := ih i a ha; exact ⟨b, by simpa using hb, hr⟩

theorem AVRel.mono {rs rs' : Regs} {φ φ' : Phi} {ok ok' : Nat → Prop} {w w' : World} {x : AV} {v : Value}
    (h : ∀ b o, ok b → w.heap[b]? = some o → ok' b ∧ w'.heap[b]? = some o)
    (hl : ∀ r, x.mentions r → ∀ g', look rs' r = some g' → φ' r = φ r ∧ ∃ g, look rs r = some g ∧ SameKind g g')
    (hv : AVRel rs φ ok w x v) : AVRel rs' φ' ok' w' x v := by
  cases x with
  | s x => exact SVRel.mono h hl hv
  | tup xs =>
    obtain ⟨vs, rfl, ha⟩ := hv
    exact ⟨vs, rfl, ha.imp fun a b hm hr => SVRel.mono h (fun r hr' => hl r ⟨a, hm, hr'⟩) hr⟩
  | fn f xs =>
    obtain ⟨vs, rfl, ha⟩ := hv
    exact ⟨vs, rfl, ha.imp fun a b hm hr => SVRel.mono h (fun r hr' => hl r ⟨a, hm, hr'⟩) hr⟩
  | gd k b want x => exact ⟨fun e => SVRel.mono h hl (hv.1 e), hv.2⟩

theorem Reg.at_mono {ok ok' : Nat → Prop} {w w' v v' : World} {l : Loc} {g : Reg} (h : ∀ b o, ok b → w.heap[b]? = some o → ok' b ∧ w'.heap[b]? = some o)
    (hb : ∀ b, l.blk = some b → v'.heap[b]? = v.heap[b]?) (hg : g.at2 ok w v l) : g.at2 ok' w' v' l := by
  cases g with
  | row t xs =>
    refine ⟨hg.1, ?_⟩
    have h2 := hg.2
    cases hbl : l.blk with
    | none => simp only [hbl] at h2 ⊢; exact h2
    | some b =>
      simp only [hbl] at h2 ⊢
      obtain ⟨cs, ty, fz, e1, e2, e3, e4⟩ := h2
      exact ⟨cs, ty, fz, (hb b hbl).trans e1, e2, e3, fun i hi => Ty.rd_mono h _ _ _ (e4 i hi)⟩
  | box t x =>
    obtain ⟨e0, b, cs, ty, fz, e1, e2, e3, e4, e5⟩ := hg
    exact ⟨e0, b, cs, ty, fz, e1, (hb b e1).trans e2, e3, e4, Ty.rd_mono h _ _ _ e5⟩
  | obox t o =>
    cases o with
    | none => exact hg
    | some x =>
      obtain ⟨e0, b, cs, ty, fz, e1, e2, e3, e4, e5⟩ := hg
      exact ⟨e0, b, cs, ty, fz, e1, (hb b e1).trans e2, e3, e4, Ty.rd_mono h _ _ _ e5⟩

/-- A region's block is there. -/
theorem Reg.at_block {ok : Nat → Prop} {w v : World} {l : Loc} {g : Reg} {b : Nat} (hg : g.at2 ok v w l) (hb : l.blk = some b) : b < w.heap.size := by
  have key : ∀ {o : Obj}, w.heap[b]? = some o → b < w.heap.size := fun h => by
    rcases Nat.lt_or_ge b w.heap.size with h1 | h1
    · exact h1
    · simp [Array.getElem?_eq_none h1] at h
  cases g with
  | row t xs =>
    have h2 := hg.2
    simp only [hb] at h2
    obtain ⟨cs, ty, fz, e1, _⟩ := h2
    exact key e1
  | box t x =>
    obtain ⟨_, b', cs, ty, fz, e1, e2, _⟩ := hg
    rw [hb] at e1; cases e1
    exact key e2
  | obox t o =>
    cases o with
    | none => simp only [Reg.at2, hb] at hg; cases hg
    | some x =>
      obtain ⟨_, b', cs, ty, fz, e1, e2, _⟩ := hg
      rw [hb] at e1; cases e1
      exact key e2

def St.put (st : St) (dst : Option Tmp) (v : AV) : St :=
  match dst with
  | some d => { st with tmps := st.tmps.set d v }
  | none => st
@[simp] theorem St.put_regs (st : St) (dst : Option Tmp) (v : AV) : (st.put dst v).regs = st.regs := by cases dst <;> rfl
@[simp] theorem St.put_next (st : St) (dst : Option Tmp) (v : AV) : (st.put dst v).next = st.next := by cases dst <;> rfl

theorem RelF.put {cx : Cx} {φ : Phi} {st : St} {a : Act} {w : World} (R : RelF cx φ st a w) {dst : Option Tmp} {av : AV} {v : Value}
    (hv : AVRel st.regs φ (okOf st.regs φ) w av v) : RelF cx φ (st.put dst av) (a.put dst v) w := by
  cases dst with
  | none => exact R
  | some d =>
    refine ⟨by simp [Act.put, St.put, R.size], R.df, ?_, R.rg, R.sep, R.fr, R.io, R.kp, R.hB, R.bs⟩
    intro i x hx
    simp only [St.put, Act.put] at hx ⊢
    rw [List.getElem?_set] at hx
    by_cases hdi : d = i
    · subst hdi
      rw [if_pos rfl] at hx
      split at hx
      · rename_i hlt
        cases hx
        have hlt' : d < a.tmps.size := by rw [R.size]; exact hlt
        have e : (a.tmps.setIfInBounds d v).getD d undef = v := by simp [hlt']
        rw [e]; exact hv
      · cases hx
    · rw [if_neg hdi] at hx
      have e : (a.tmps.setIfInBounds d v).getD i undef = a.tmps.getD i undef := by
        simp [Array.getElem?_setIfInBounds_ne hdi]
      rw [e]; exact R.tm i x hx

/-- A world that differs in what no cell tells. -/
theorem RelF.heap {cx : Cx} {φ : Phi} {st : St} {a : Act} {w w' : World} (R : RelF cx φ st a w) (hh : w'.heap = w.heap) (ho : w'.os = w.os)
    (ht : w'.tape = w.tape) (hu : w'.output = w.output) : RelF cx φ st a w' := by
  have hm : ∀ b o, okOf st.regs φ b → w.heap[b]? = some o → okOf st.regs φ b ∧ w'.heap[b]? = some o := fun b o h1 h2 => ⟨h1, by rw [hh]; exact h2⟩
  exact ⟨R.size, R.df, fun i av h => AVRel.mono hm (fun r _ g' hg => ⟨rfl, g', hg, SameKind.refl _⟩) (R.tm i av h),
    fun r g h => Reg.at_mono hm (fun b _ => by rw [hh]) (R.rg r g h), R.sep, R.fr, R.io,
    ⟨ho.trans R.kp.os, ht.trans R.kp.tape, hu.trans R.kp.output, by rw [hh]; exact R.kp.size, fun k hk ho => by rw [hh]; exact R.kp.block k hk ho⟩, by rw [hh]; exact R.hB, R.bs⟩

/-- Regions and the world change. -/
theorem RelF.change {cx : Cx} {φ φ' : Phi} {st : St} {a : Act} {w w' : World} {rs' : Regs} (R : RelF cx φ st a w)
    (hm : ∀ b o, okOf st.regs φ b → w.heap[b]? = some o → okOf rs' φ' b ∧ w'.heap[b]? = some o)
    (hl : ∀ r g', look rs' r = some g' → (∃ av ∈ st.tmps, av.mentions r) → φ' r = φ r ∧ ∃ g, look st.regs r = some g ∧ SameKind g g')
    (hg : ∀ r g', look rs' r = some g' → g'.at (okOf rs' φ') w' (φ' r))
    (sep : ∀ r r' g g' b, look rs' r = some g → look rs' r' = some g' → (φ' r).blk = some b → (φ' r').blk = some b → r = r')
    (fr : ∀ r g b, look rs' r = some g → (φ' r).blk = some b → cx.B ≤ b ∨ cx.own b)
    (io : ∀ r l, (r, l) ∈ cx.io → (look rs' r).isSome = true → φ' r = l)
    (kp : Kept cx.own cx.B w w') (hbase : φ'.base = φ.base) : RelF cx φ' { st with regs := rs' } a w' :=
  ⟨R.size, R.df, fun i av h => AVRel.mono hm (fun r hr g' hg => hl r g' hg ⟨av, List.mem_of_getElem? h, hr⟩) (R.tm i av h), hg, sep, fr, io,
    R.kp.trans kp (fun _ _ h => h) (fun _ _ h => h), Nat.le_trans R.hB kp.size, by rw [hbase]; exact R.bs⟩

def setLoc (φ : Phi) (n : Nat) (l : Loc) : Phi := ⟨fun r => if r = n then l else φ r, φ.base⟩
theorem setLoc_self (φ : Phi) (r : Nat) : setLoc φ r (φ r) = φ := by
  cases φ with
  | mk loc base =>
    simp only [setLoc]
    congr 1
    funext s
    split <;> simp_all
def without (rs : Regs) : Option Nat → Regs
  | none => rs
  | some r => drop rs r
theorem look_without (rs : Regs) (old : Option Nat) (s : Nat) : look (without rs old) s = if old = some s then none else look rs s := by
  cases old with
  | none => simp [without]
  | some r => simp only [without, look_drop, Option.some.injEq]

/-- One region is made, written, or takes another's place. -/
theorem RelF.step {cx : Cx} {φ : Phi} {st : St} {a : Act} {w w' : World} (R : RelF cx φ st a w) (old : Option Nat) (n : Nat) (g' : Reg) (l : Loc)
    (hblk : ∀ b, l.blk = some b → w.heap.size ≤ b ∨ ∃ r g, old = some r ∧ look st.regs r = some g ∧ (φ r).blk = some b)
    (hother : ∀ b, b < w.heap.size → l.blk ≠ some b → w'.heap[b]? = w.heap[b]?)
    (hn : Fresh st n ∨ (old = some n ∧ φ n = l ∧ ∃ g, look st.regs n = some g ∧ SameKind g g'))
    (hio : ∀ l0, (n, l0) ∈ cx.io → ¬ Fresh st n)
    (hat : g'.at2 (okOf st.regs φ) w w' l)
    (hos : w'.os = w.os) (htape : w'.tape = w.tape) (hout : w'.output = w.output) (hsize : w.heap.size ≤ w'.heap.size) :
    RelF cx (setLoc φ n l) { st with regs := upd (without st.regs old) n (some g') } a w' := by
  have hlook : ∀ s g, look (upd (without st.regs old) n (some g')) s = some g → (s = n ∧ g = g') ∨ (s ≠ n ∧ old ≠ some s ∧ look st.regs s = some g) := by
    intro s g h
    rw [look_upd] at h
    split at h
    · rename_i e; cases h; exact .inl ⟨e.symm, rfl⟩
    · rename_i e
      rw [look_without] at h
      split at h
      · cases h
      · rename_i e2; exact .inr ⟨fun e3 => e e3.symm, e2, h⟩
  -- a block of another region is not the new one
  have hne : ∀ s g b, s ≠ n → old ≠ some s → look st.regs s = some g → (φ s).blk = some b → l.blk ≠ some b := by
    intro s g b h1 h2 h3 h4 h5
    rcases hblk b h5 with h6 | ⟨r, g2, e1, e2, e3⟩
    · have := Reg.at_block (R.rg s g h3) h4; omega
    · have := R.sep s r g g2 b h3 e2 h4 e3
      subst this; exact h2 e1
  have hm : ∀ b o, okOf st.regs φ b → w.heap[b]? = some o → okOf (upd (without st.regs old) n (some g')) (setLoc φ n l) b ∧ w'.heap[b]? = some o := by
    intro b o hok hh
    have hlt : b < w.heap.size := by
      rcases Nat.lt_or_ge b w.heap.size with h1 | h1
      · exact h1
      · simp [Array.getElem?_eq_none h1] at hh
    have hlb : l.blk ≠ some b := by
      intro e
      rcases hblk b e with h6 | ⟨r, g2, e1, e2, e3⟩
      · omega
      · exact hok.1 r g2 e2 e3
    refine ⟨⟨?_, hok.2⟩, (hother b hlt hlb).trans hh⟩
    intro s g hs
    rcases hlook s g hs with ⟨e1, e2⟩ | ⟨e1, e2, e3⟩
    · subst e1; simp only [setLoc, if_pos]; exact hlb
    · simp only [setLoc, if_neg e1]; exact hok.1 s g e3
  refine R.change (w' := w') hm ?_ ?_ ?_ ?_ ?_ ?_ rfl
  · intro r g hg hmen
    rcases hlook r g hg with ⟨e1, e2⟩ | ⟨e1, e2, e3⟩
    · subst e1; subst e2
      rcases hn with hf | ⟨_, h2, h3⟩
      · obtain ⟨av, hav, hme⟩ := hmen
        exact (hf.2 av hav hme).elim
      · exact ⟨by simp [setLoc, h2], h3⟩
    · exact ⟨by simp [setLoc, e1], g, e3, SameKind.refl g⟩
  · intro r g hg
    rcases hlook r g hg with ⟨e1, e2⟩ | ⟨e1, e2, e3⟩
    · subst e1; subst e2
      have : setLoc φ r l r = l := by simp [setLoc]
      rw [this]
      exact Reg.at_mono hm (fun _ _ => rfl) hat
    · have : setLoc φ n l r = φ r := by simp [setLoc, e1]
      rw [this]
      refine Reg.at_mono hm (fun b hb => hother b (Reg.at_block (R.rg r g e3) hb) (hne r g b e1 e2 e3 hb)) (R.rg r g e3)
  · intro r r' g g2 b h1 h2 h3 h4
    rcases hlook r g h1 with ⟨e1, _⟩ | ⟨e1, e2, e3⟩ <;> rcases hlook r' g2 h2 with ⟨f1, _⟩ | ⟨f1, f2, f3⟩
    · rw [e1, f1]
    · subst e1
      simp only [setLoc, if_pos, if_neg f1] at h3 h4
      exact (hne r' g2 b f1 f2 f3 h4 h3).elim
    · subst f1
      simp only [setLoc, if_pos, if_neg e1] at h3 h4
      exact (hne r g b e1 e2 e3 h3 h4).elim
    · simp only [setLoc, if_neg e1, if_neg f1] at h3 h4
      exact R.sep r r' g g2 b e3 f3 h3 h4
  · intro r g b h1 h2
    rcases hlook r g h1 with ⟨e1, _⟩ | ⟨e1, e2, e3⟩
    · subst e1
      simp only [setLoc, if_pos] at h2
      rcases hblk b h2 with h6 | ⟨r2, g2, f1, f2, f3⟩
      · have := R.hB; left; omega
      · exact R.fr r2 g2 b f2 f3
    · simp only [setLoc, if_neg e1] at h2
      exact R.fr r g b e3 h2
  · intro r l0 h1 h2
    obtain ⟨g, hg⟩ := Option.isSome_iff_exists.1 h2
    rcases hlook r g hg with ⟨e1, _⟩ | ⟨e1, e2, e3⟩
    · subst e1
      rcases hn with hf | ⟨_, h2, g0, h3, _⟩
      · exact (hio l0 h1 hf).elim
      · simp only [setLoc, if_pos]
        rw [← h2]; exact R.io r l0 h1 (by simp [h3])
    · simp only [setLoc, if_neg e1]
      exact R.io r l0 h1 (by simp [e3])
  · refine ⟨hos, htape, hout, hsize, fun k hk hown => ?_⟩
    refine hother k (by have := R.hB; omega) (fun e => ?_)
    rcases hblk k e with h6 | ⟨r2, g2, f1, f2, f3⟩
    · have := R.hB; omega
    · rcases R.fr r2 g2 k f2 f3 with h7 | h7
      · omega
      · exact hown h7

end Go.Lift
/- The abstract operations that touch no memory, and that they tell what the machine does. -/
namespace Go.Lift
open Go

theorem VRel.cells_one {ok : Nat → Prop} {w : World} {t : Ty} {x : t.den} {v : Value} (h : VRel ok w t x v) (ht : t.agg = false) : v.cells = #[v] := by
  have := h.2.2
  rw [ht] at this
  cases v <;> first | rfl | (simp [Value.isAgg] at this)
theorem VRel.int_eq {ok : Nat → Prop} {w : World} {k : IntKind} {x : Int} {v : Value} (h : VRel ok w (.int k) x v) : v = .int k x := by
  have h1 := h.1
  rw [h.cells_one rfl] at h1
  simpa [Ty.rd] using h1
theorem VRel.bool_eq {ok : Nat → Prop} {w : World} {x : Bool} {v : Value} (h : VRel ok w .bool x v) : v = .bool x := by
  have h1 := h.1
  rw [h.cells_one rfl] at h1
  simpa [Ty.rd] using h1
theorem VRel.str_eq {ok : Nat → Prop} {w : World} {x : ByteArray} {v : Value} (h : VRel ok w .str x v) : v = .string x := by
  have h1 := h.1
  rw [h.cells_one rfl] at h1
  simpa [Ty.rd] using h1
theorem VRel.of_int (ok : Nat → Prop) (w : World) (k : IntKind) (x : Int) : VRel ok w (.int k) x (.int k x) := ⟨rfl, rfl, rfl⟩
theorem VRel.of_bool (ok : Nat → Prop) (w : World) (x : Bool) : VRel ok w .bool x (.bool x) := ⟨rfl, rfl, rfl⟩
theorem VRel.of_str (ok : Nat → Prop) (w : World) (x : ByteArray) : VRel ok w .str x (.string x) := ⟨rfl, rfl, rfl⟩

def vI (k : IntKind) (x : Int) : SV := .val (.int k) x
def vB (b : Bool) : SV := .val .bool b
def vS (s : ByteArray) : SV := .val .str s

def intOp (op : BinOp) (k : IntKind) (a b : Int) : Option (List Prop × SV) :=
  match op with
  | .add => some ([], vI k (k.wrap (a + b)))
  | .sub => some ([], vI k (k.wrap (a - b)))
  | .mul => some ([], vI k (k.wrap (a * b)))
  | .quo => some ([b ≠ 0], vI k (k.wrap (a.tdiv b)))
  | .rem => some ([b ≠ 0], vI k (a.tmod b))
  | .and => some ([], vI k (bits .and k a b))
  | .or => some ([], vI k (bits .or k a b))
  | .xor => some ([], vI k (bits .xor k a b))
  | .andNot => some ([], vI k (bits .andNot k a b))
  | .eql => some ([], vB (a == b))
  | .neq => some ([], vB (a != b))
  | .lss => some ([], vB (decide (a < b)))
  | .leq => some ([], vB (decide (a ≤ b)))
  | .gtr => some ([], vB (decide (a > b)))
  | .geq => some ([], vB (decide (a ≥ b)))
  | _ => none

def strOp (op : BinOp) (a b : ByteArray) : Option (List Prop × SV) :=
  match op with
  | .eql => some ([], vB (a.toList == b.toList))
  | .neq => some ([], vB (!(a.toList == b.toList)))
  | .add => some ([((a.size + b.size : Nat) : Int) ≤ 9223372036854775807], vS (a ++ b))
  | _ => none

def binV (op : BinOp) (x y : SV) : Option (List Prop × SV) :=
  match x, y with
  | .val (.int k) a, .val (.int k') b =>
    match op with
    | .shl => some ([0 ≤ b], vI k (k.wrap (a * 2 ^ (min b.toNat k.bits))))
    | .shr => some ([0 ≤ b], vI k (a.fdiv (2 ^ (min b.toNat k.bits))))
    | op => if k = k' then intOp op k a b else none
  | .val .str a, .val .str b => strOp op a b
  | .val .bool a, .val .bool b =>
    match op with
    | .eql => some ([], vB (a == b))
    | .neq => some ([], vB (a != b))
    | _ => none
  | _, _ => none

theorem run_equalIn_bool {P : Program} {w : World} {t : TypeId} (h : P.underlying t = some .bool) (a b : Bool) (d : Nat) : (Op.equalIn (d + 1) t (.bool a) (.bool b)).run P w = .ok (a == b) w := by
  simp [Op.equalIn, run_underlying h]
theorem run_equal_bool {P : Program} {w : World} {t : TypeId} (h : P.underlying t = some .bool) (a b : Bool) : (Op.equal t (.bool a) (.bool b)).run P w = .ok (a == b) w :=
  run_equalIn_bool h a b 9999

theorem binV_sound {P : Program} {rs : Regs} {φ : Phi} {ok : Nat → Prop} {w : World} {op : BinOp} {t : TypeId} {x y v : SV} {vc : List Prop} {X Y : Value} (xo yo : Operand)
    (h : binV op x y = some (vc, v)) (hvc : ∀ p ∈ vc, p) (ht : ∀ b, x = .val .bool b → P.underlying t = some .bool)
    (hx : SVRel rs φ ok w x X) (hy : SVRel rs φ ok w y Y) :
    ∃ V, (do eqGuard op t xo yo X Y; binOp op t X Y : Sem Value).run P w = .ok V w ∧ SVRel rs φ ok w v V := by
  unfold binV at h
  split at h
  · rename_i k a k' b
    have eX : X = .int k a := VRel.int_eq hx
    have eY : Y = .int k' b := VRel.int_eq hy
    subst eX; subst eY
    split at h
    · cases h
      have h0 : 0 ≤ b := hvc _ (by simp)
      refine ⟨_, ?_, VRel.of_int _ _ _ _⟩
      simp [eqGuard_at_int, binOp, Op.shift, Int.not_lt.2 h0]
    · cases h
      have h0 : 0 ≤ b := hvc _ (by simp)
      refine ⟨_, ?_, VRel.of_int _ _ _ _⟩
      simp [eqGuard_at_int, binOp, Op.shift, Int.not_lt.2 h0]
    · rename_i n1 n2
      split at h
      · rename_i hk
        subst hk
        unfold intOp at h
        split at h <;> first | (cases h; done) | skip
        all_goals (cases h)
        · exact ⟨_, by simp [eqGuard_at_int, binOp_add, Op.intArith], VRel.of_int _ _ _ _⟩
        · exact ⟨_, by simp [eqGuard_at_int, binOp_sub, Op.intArith], VRel.of_int _ _ _ _⟩
        · exact ⟨_, by simp [eqGuard_at_int, binOp_mul, Op.intArith], VRel.of_int _ _ _ _⟩
        · have h0 : b ≠ 0 := hvc _ (by simp)
          exact ⟨_, by simp [eqGuard_at_int, binOp_quo, Op.intDiv, h0], VRel.of_int _ _ _ _⟩
        · have h0 : b ≠ 0 := hvc _ (by simp)
          exact ⟨_, by simp [eqGuard_at_int, binOp_rem, Op.intDiv, h0], VRel.of_int _ _ _ _⟩
        · exact ⟨_, by simp [eqGuard_at_int, binOp_and, intBits_and], VRel.of_int _ _ _ _⟩
        · exact ⟨_, by simp [eqGuard_at_int, binOp_or, intBits_or], VRel.of_int _ _ _ _⟩
        · exact ⟨_, by simp [eqGuard_at_int, binOp_xor, intBits_xor], VRel.of_int _ _ _ _⟩
        · exact ⟨_, by simp [eqGuard_at_int, binOp_andNot, intBits_andNot], VRel.of_int _ _ _ _⟩
        · exact ⟨_, by simp [eqGuard_at_int, binOp_eql], VRel.of_bool _ _ _⟩
        · exact ⟨_, by simp [eqGuard_at_int, binOp_neq], VRel.of_bool _ _ _⟩
        · exact ⟨_, by simp [eqGuard_at_int, binOp_lss], VRel.of_bool _ _ _⟩
        · exact ⟨_, by simp [eqGuard_at_int, binOp_leq], VRel.of_bool _ _ _⟩
        · exact ⟨_, by simp [eqGuard_at_int, binOp_gtr], VRel.of_bool _ _ _⟩
        · exact ⟨_, by simp [eqGuard_at_int, binOp_geq], VRel.of_bool _ _ _⟩
      · cases h
  · rename_i a b
    have eX : X = .string a := VRel.str_eq hx
    have eY : Y = .string b := VRel.str_eq hy
    subst eX; subst eY
    unfold strOp at h
    split at h <;> first | (cases h; done) | skip
    all_goals (cases h)
    · exact ⟨_, by simp [eqGuard_at_string, binOp, Op.stringOp], VRel.of_bool _ _ _⟩
    · exact ⟨_, by simp [eqGuard_at_string, binOp, Op.stringOp], VRel.of_bool _ _ _⟩
    · have h0 := hvc _ (List.mem_singleton.2 rfl)
      have h1 : ¬ (((a.size + b.size : Nat) : Int) > IntKind.i64.max) := by
        have : IntKind.i64.max = 9223372036854775807 := by decide
        omega
      refine ⟨_, ?_, VRel.of_str _ _ _⟩
      simp only [eqGuard_at_string, binOp, Op.stringOp, if_neg h1, Sem.run_bind, Sem.run_pure, Result.andThen_ok]
  · rename_i a b
    have eX : X = .bool a := VRel.bool_eq hx
    have eY : Y = .bool b := VRel.bool_eq hy
    subst eX; subst eY
    have hu := ht a rfl
    split at h <;> first | (cases h; done) | skip
    all_goals (cases h)
    · exact ⟨_, by simp [eqGuard_at_bool, binOp, run_equal_bool hu], VRel.of_bool _ _ _⟩
    · exact ⟨_, by simp [eqGuard_at_bool, binOp, run_equal_bool hu, bne], VRel.of_bool _ _ _⟩
  · cases h

end Go.Lift
/- What the machine's loads, stores and makers do to a block that is known whole. -/
namespace Go.Lift
open Go

structure Wrote (w w' : World) (b : Nat) (o : Obj) : Prop where
  at_ : w'.heap[b]? = some o
  other : ∀ k, k ≠ b → w'.heap[k]? = w.heap[k]?
  size : w'.heap.size = w.heap.size
  os : w'.os = w.os
  tape : w'.tape = w.tape
  output : w'.output = w.output
theorem Wrote.trans {w w' w'' : World} {b : Nat} {o o' : Obj} (h : Wrote w w' b o) (k : Wrote w' w'' b o') : Wrote w w'' b o' :=
  ⟨k.at_, fun i hi => (k.other i hi).trans (h.other i hi), k.size.trans h.size, k.os.trans h.os, k.tape.trans h.tape, k.output.trans h.output⟩
theorem Wrote.self {w : World} {b : Nat} {o : Obj} (h : w.heap[b]? = some o) : Wrote w w b o := ⟨h, fun _ _ => rfl, rfl, rfl, rfl, rfl⟩

theorem add_mk (b o i : Nat) : (⟨b, o, none⟩ : Addr).add i = ⟨b, o + i, none⟩ := by unfold Addr.add; split <;> simp_all

theorem run_store_cell {P : Program} {w : World} {b o : Nat} {cs : Array Value} {ty : TypeId} {fz : Nat × Nat} (v : Value) (hh : w.heap[b]? = some (.cells cs ty fz))
    (hf : Thawed fz cs.size) (ho : o < cs.size) (hv : v.oneCell' = true) :
    ∃ w', (store ⟨b, o, none⟩ v).run P w = .ok () w' ∧ Wrote w w' b (.cells (cs.setIfInBounds o v) ty fz) := by
  have hc : w.cell? ⟨b, o, none⟩ = some cs[o] := by simp [World.cell?, hh, ho]
  have hz : w.frozen? ⟨b, o, none⟩ = false := by
    have := hf o ho
    simp only [World.frozen?, hh]
    exact this
  refine ⟨w.setCell ⟨b, o, none⟩ v, ?_, ?_⟩
  · rw [run_store P w _ v _ hv, hc]; simp [hz]
  · have hlt : b < w.heap.size := (Array.getElem?_eq_some_iff.1 hh).1
    have hv : w.heap[b] = .cells cs ty fz := (Array.getElem?_eq_some_iff.1 hh).2
    refine ⟨?_, ?_, by simp [World.setCell], rfl, rfl, rfl⟩
    · simp only [World.setCell, Array.getElem?_modify]
      simp [hlt, hv]
    · intro k hk
      exact RowKit.Below.heap_setCell _ _ _ _ hk

def writeAt (cs : Array Value) (o : Nat) : List Value → Array Value
  | [] => cs
  | v :: r => writeAt (cs.setIfInBounds o v) (o + 1) r
theorem size_writeAt : ∀ (vs : List Value) (cs : Array Value) (o : Nat), (writeAt cs o vs).size = cs.size
  | [], _, _ => rfl
  | v :: r, cs, o => by simp [writeAt, size_writeAt r]
theorem get_writeAt : ∀ (vs : List Value) (cs : Array Value) (o j : Nat), o + vs.length ≤ cs.size →
    (writeAt cs o vs)[j]? = if o ≤ j ∧ j < o + vs.length then vs[j - o]? else cs[j]?
  | [], cs, o, j, _ => by
    have : ¬ (o ≤ j ∧ j < o + 0) := by omega
    simp only [writeAt, List.length_nil]; rw [if_neg this]
  | v :: r, cs, o, j, h => by
    simp only [writeAt]
    simp only [List.length_cons] at h
    rw [get_writeAt r _ _ _ (by simp; omega)]
    simp only [List.length_cons]
    by_cases h1 : j = o
    · subst h1
      rw [if_neg (by omega), if_pos (by omega)]
      have hj : j < cs.size := by omega
      simp [hj]
    · by_cases h2 : o + 1 ≤ j ∧ j < o + 1 + r.length
      · rw [if_pos h2, if_pos (by omega)]
        rw [show j - o = (j - (o + 1)) + 1 from by omega, List.getElem?_cons_succ]
      · rw [if_neg h2, if_neg (by omega), Array.getElem?_setIfInBounds_ne (by omega)]

theorem run_storeCells_wrote {P : Program} {b o0 : Nat} {ty : TypeId} {fz : Nat × Nat} : ∀ (vs : List Value) (i : Nat) (cs : Array Value) (w : World),
    w.heap[b]? = some (.cells cs ty fz) → Thawed fz cs.size → o0 + i + vs.length ≤ cs.size → (∀ v ∈ vs, v.oneCell' = true) →
    ∃ w', (storeCells ⟨b, o0, none⟩ vs i).run P w = .ok () w' ∧ Wrote w w' b (.cells (writeAt cs (o0 + i) vs) ty fz)
  | [], i, cs, w, hh, _, _, _ => ⟨w, rfl, Wrote.self hh⟩
  | v :: r, i, cs, w, hh, hf, hl, h1 => by
    simp only [List.length_cons] at hl
    obtain ⟨w1, e1, k1⟩ := run_store_cell (P := P) (o := o0 + i) v hh hf (by omega) (h1 v (by simp))
    obtain ⟨w2, e2, k2⟩ := run_storeCells_wrote (P := P) (o0 := o0) r (i + 1) _ w1 k1.at_ (by simpa using hf) (by simp; omega) (fun x hx => h1 x (by simp [hx]))
    refine ⟨w2, ?_, ?_⟩
    · simp only [storeCells, Sem.run_bind, add_mk, e1, Result.andThen_ok, e2]
    · simp only [writeAt]
      rw [← Nat.add_assoc] at k2
      exact k1.trans k2

theorem Ty.rd_cell {ok : Nat → Prop} {w : World} : ∀ (t : Ty) (x : t.den) (c : Nat → Option Value), t.rd ok w x c → ∀ j, j < t.sz → ∃ v, c j = some v ∧ v.oneCell' = true := by
  intro t
  induction t with
  | int k => intro x c h j hj; simp [Ty.sz] at hj; subst hj; exact ⟨_, h, rfl⟩
  | bool => intro x c h j hj; simp [Ty.sz] at hj; subst hj; exact ⟨_, h, rfl⟩
  | str => intro x c h j hj; simp [Ty.sz] at hj; subst hj; exact ⟨_, h, rfl⟩
  | unit => intro x c h j hj; simp [Ty.sz] at hj
  | ro t ih => intro x c h j hj; simp [Ty.sz] at hj; subst hj; obtain ⟨a, cap, h0, _⟩ := h; exact ⟨_, h0, rfl⟩
  | pair a b iha ihb =>
    intro x c h j hj
    simp only [Ty.sz] at hj
    by_cases hja : j < a.sz
    · exact iha _ _ h.1 j hja
    · obtain ⟨v, hv, h1⟩ := ihb _ _ h.2 (j - a.sz) (by omega)
      have hv' : c (a.sz + (j - a.sz)) = some v := hv
      rw [show a.sz + (j - a.sz) = j from by omega] at hv'
      exact ⟨v, hv', h1⟩
  | arr n t ih =>
    intro x c h j hj
    simp only [Ty.sz] at hj
    have hs : 0 < t.sz := by
      rcases Nat.eq_zero_or_pos t.sz with h0 | h0
      · rw [h0] at hj; simp at hj
      · exact h0
    have hn := h.1
    have hd : j / t.sz < n := Nat.div_lt_of_lt_mul (by rw [Nat.mul_comm]; exact hj)
    obtain ⟨v, hv, h1⟩ := ih _ _ (h.2 (j / t.sz) (by omega)) (j % t.sz) (Nat.mod_lt _ hs)
    have hv' : c (j / t.sz * t.sz + j % t.sz) = some v := hv
    rw [Nat.mul_comm, Nat.div_add_mod] at hv'
    exact ⟨v, hv', h1⟩

/-! ### types as the program has them -/

def sizeT (P : Program) (t : TypeId) : Option Nat := (P.info? t).map (·.size)
def bytesT (P : Program) (t : TypeId) : Option Nat := (P.info? t).map (·.bytes)
def aggT (P : Program) (t : TypeId) : Option Bool :=
  match P.underlying t with
  | some (.struct _) => some true
  | some (.array _ _) => some true
  | some _ => some false
  | none => none

theorem run_sizeOf {P : Program} {t : TypeId} {n : Nat} (h : sizeT P t = some n) (w : World) : (sizeOf t).run P w = .ok n w := by
  unfold sizeT at h
  cases hi : P.info? t with
  | none => simp [hi] at h
  | some i => simp [hi] at h; simp [sizeOf, typeInfo, hi, h]
theorem run_isAgg {P : Program} {t : TypeId} {b : Bool} (h : aggT P t = some b) (w : World) : (isAgg t).run P w = .ok b w := by
  unfold aggT at h
  cases hu : P.underlying t with
  | none => simp [hu] at h
  | some d => simp only [hu] at h; cases d <;> simp at h <;> subst h <;> simp [isAgg, run_underlying hu]

/-- Does a type of the program have the shape of a type here? -/
def fits (P : Program) (t : TypeId) (u : Ty) : Bool := sizeT P t == some u.sz && aggT P t == some u.agg
theorem fits_size {P : Program} {t : TypeId} {u : Ty} (h : fits P t u = true) : sizeT P t = some u.sz := by simp [fits] at h; exact h.1
theorem fits_agg {P : Program} {t : TypeId} {u : Ty} (h : fits P t u = true) : aggT P t = some u.agg := by simp [fits] at h; exact h.2

theorem Ty.sz_one {t : Ty} (h : t.agg = false) : t.sz = 1 := by cases t <;> first | rfl | (simp [Ty.agg] at h)

theorem VRel.of_cells {ok : Nat → Prop} {w : World} {u : Ty} {y : u.den} {c : Nat → Option Value} (hr : u.rd ok w y c) (hu : u.agg = true) (cs : Array Value) (hs : cs.size = u.sz)
    (hc : ∀ j, j < u.sz → cs[j]? = c j) : VRel ok w u y (.agg cs) :=
  ⟨Ty.rd_congr _ _ _ _ (fun j hj => (hc j hj).symm) hr, hs, by rw [hu]; rfl⟩
theorem VRel.of_cell {ok : Nat → Prop} {w : World} {u : Ty} {y : u.den} {c : Nat → Option Value} (hr : u.rd ok w y c) (hu : u.agg = false) (v : Value) (hc : c 0 = some v) : VRel ok w u y v := by
  have h1 := Ty.sz_one hu
  have hone : Value.isAgg v = false := by
    obtain ⟨v', e, ho⟩ := Ty.rd_cell u y c hr 0 (by omega)
    rw [hc] at e; cases e
    cases v <;> first | rfl | (simp [Value.oneCell'] at ho)
  have hcs : v.cells = #[v] := by cases v <;> first | rfl | (simp [Value.isAgg] at hone)
  refine ⟨Ty.rd_congr _ _ _ _ (fun j hj => ?_) hr, by rw [hcs, h1]; rfl, by rw [hu, hone]⟩
  have : j = 0 := by omega
  subst this
  rw [hcs, hc]; rfl

theorem run_loadVar_rd {P : Program} {ok : Nat → Prop} {w : World} {t : TypeId} {u : Ty} {y : u.den} {b o : Nat} {cs : Array Value} {ty : TypeId} {fz : Nat × Nat} (hfit : fits P t u = true)
    (hh : w.heap[b]? = some (.cells cs ty fz)) (hr : u.rd ok w y (fun j => cs[o + j]?)) :
    ∃ V, (loadVar t ⟨b, o, none⟩).run P w = .ok V w ∧ VRel ok w u y V := by
  have hcell := Ty.rd_cell u y _ hr
  have hagg := fits_agg hfit
  cases hu : u.agg with
  | true =>
    rw [hu] at hagg
    have hl := run_loadCells (P := P) w ⟨b, o, none⟩ u.sz (fun j => (cs[o + j]?).getD undef) (fun j hj => by
      obtain ⟨v, hv, _⟩ := hcell j hj
      have hv' : cs[o + j]? = some v := hv
      rw [add_mk]
      simp [World.cell?, hh, hv'])
    refine ⟨.agg ((List.range u.sz).map fun j => (cs[o + j]?).getD undef).toArray, ?_, ?_⟩
    · simp only [loadVar, Sem.run_bind, run_isAgg hagg, Result.andThen_ok, if_true, run_sizeOf (fits_size hfit), hl, Sem.run_pure]
    refine VRel.of_cells hr hu _ (by simp) (fun j hj => ?_)
    obtain ⟨v, hv, _⟩ := hcell j hj
    have hv' : cs[o + j]? = some v := hv
    simp [hj, hv']
  | false =>
    rw [hu] at hagg
    obtain ⟨v, hv, _⟩ := hcell 0 (by rw [Ty.sz_one hu]; omega)
    have hv' : cs[o]? = some v := by simpa using hv
    refine ⟨v, ?_, VRel.of_cell hr hu v hv⟩
    simp [loadVar, run_isAgg hagg, World.cell?, hh, hv']

theorem VRel.cells_list {ok : Nat → Prop} {w : World} {u : Ty} {y : u.den} {v : Value} (h : VRel ok w u y v) : ∀ c ∈ v.cells.toList, c.oneCell' = true := by
  intro c hc
  obtain ⟨j, hj, e⟩ := List.getElem_of_mem hc
  have hj' : j < v.cells.size := by simpa using hj
  obtain ⟨v', hv', h1⟩ := Ty.rd_cell u y _ h.1 j (by rw [← h.2.1]; exact hj')
  have : v.cells[j]? = some c := by
    rw [Array.getElem?_eq_getElem hj']
    congr 1
  rw [this] at hv'
  cases hv'
  exact h1

theorem run_storeVar_rd {P : Program} {ok : Nat → Prop} {w : World} {t : TypeId} {u : Ty} {y : u.den} {v : Value} {b o : Nat} {cs : Array Value} {ty : TypeId} {fz : Nat × Nat} (hfit : sizeT P t = some u.sz)
    (hh : w.heap[b]? = some (.cells cs ty fz)) (hf : Thawed fz cs.size) (ho : o + u.sz ≤ cs.size) (hv : VRel ok w u y v) :
    ∃ w' cs', (storeVar t ⟨b, o, none⟩ v).run P w = .ok () w' ∧ Wrote w w' b (.cells cs' ty fz) ∧ cs'.size = cs.size ∧
      (∀ j, j < o ∨ o + u.sz ≤ j → cs'[j]? = cs[j]?) ∧ (∀ j, j < u.sz → cs'[o + j]? = v.cells[j]?) := by
  have hl : v.cells.toList.length = u.sz := by simpa using hv.2.1
  obtain ⟨w', e, k⟩ := run_storeCells_wrote (P := P) (b := b) (o0 := o) v.cells.toList 0 cs w hh hf (by omega) hv.cells_list
  refine ⟨w', _, ?_, k, size_writeAt _ _ _, ?_, ?_⟩
  · simp only [storeVar, Sem.run_bind, run_sizeOf hfit, Result.andThen_ok]
    rw [if_neg (by simp [hv.2.1])]
    exact e
  · intro j hj
    rw [Nat.add_zero, get_writeAt _ _ _ _ (by omega), if_neg (by omega)]
  · intro j hj
    rw [Nat.add_zero, get_writeAt _ _ _ _ (by omega), if_pos (by omega)]
    simp

end Go.Lift
/- Loads, stores, addresses, makers: abstract, and that they tell what the machine does. -/
namespace Go.Lift
open Go

inductive EffI where
  | set (old : Option Nat) (n : Nat) (g : Reg)
  | del (r : Nat)
abbrev Eff := List EffI
def EffI.app (rs : Regs) : EffI → Regs
  | .set old n g => upd (without rs old) n (some g)
  | .del r => drop rs r
def Eff.app (rs : Regs) : Eff → Regs
  | [] => rs
  | e :: es => Eff.app (e.app rs) es

def FreshN (cx : Cx) (st : St) (n : Nat) : Prop := Fresh st n ∧ ∀ l, (n, l) ∉ cx.io

theorem RelF.del {cx : Cx} {φ : Phi} {st : St} {a : Act} {w : World} (R : RelF cx φ st a w) (r : Nat) : RelF cx φ { st with regs := drop st.regs r } a w := by
  have hlk : ∀ s g, look (drop st.regs r) s = some g → look st.regs s = some g := by
    intro s g h
    rw [look_drop] at h
    split at h
    · cases h
    · exact h
  have hm : ∀ b o, okOf st.regs φ b → w.heap[b]? = some o → okOf (drop st.regs r) φ b ∧ w.heap[b]? = some o :=
    fun b o h1 h2 => ⟨⟨fun s g hs => h1.1 s g (hlk s g hs), h1.2⟩, h2⟩
  exact R.change hm (fun s g hs _ => ⟨rfl, g, hlk s g hs, SameKind.refl g⟩) (fun s g hs => Reg.at_mono hm (fun _ _ => rfl) (R.rg s g (hlk s g hs)))
    (fun s s' g g' b h1 h2 h3 h4 => R.sep s s' g g' b (hlk _ _ h1) (hlk _ _ h2) h3 h4) (fun s g b h1 h2 => R.fr s g b (hlk _ _ h1) h2)
    (fun s l h1 h2 => R.io s l h1 (by obtain ⟨g, hg⟩ := Option.isSome_iff_exists.1 h2; rw [hlk _ _ hg]; rfl)) (Kept.refl _ _ _) rfl

/-- A simple value as one of a type; what it takes with it. -/
def toVal (rs : Regs) (v : SV) (t : Ty) : Option (t.den × List Nat) :=
  match v with
  | .val u y => (castTy u t y).map fun z => (z, [])
  | .nilsl => match t with
    | .ro τ => some (([] : List τ.den), [])
    | _ => none
  | .sl r => match t with
    | .ro τ => match look rs r with
      | some (.row τ' xs) => (castTy (.ro τ') (.ro τ) xs).map fun z => (z, [r])
      | _ => none
    | _ => none
  | _ => none

def dels (rs : Regs) : List Nat → Regs
  | [] => rs
  | r :: l => dels (drop rs r) l
theorem RelF.dels {cx : Cx} {φ : Phi} {a : Act} {w : World} : ∀ (l : List Nat) {st : St}, RelF cx φ st a w → RelF cx φ { st with regs := dels st.regs l } a w
  | [], _, R => R
  | r :: l, _, R => RelF.dels l (R.del r)
theorem look_dels : ∀ (l : List Nat) (rs : Regs) (s : Nat), look (dels rs l) s = if s ∈ l then none else look rs s
  | [], rs, s => by simp [dels]
  | r :: l, rs, s => by
    simp only [dels, look_dels l, look_drop, List.mem_cons]
    by_cases h : s ∈ l
    · simp [h]
    · by_cases h2 : r = s
      · simp [h2]
      · simp [h, h2, Ne.symm h2]

theorem row_val {cx : Cx} {φ : Phi} {st : St} {a : Act} {w : World} (R : RelF cx φ st a w) {r : Nat} {τ : Ty} {xs : List τ.den} (h : look st.regs r = some (.row τ xs)) (ok : Nat → Prop)
    (hok : ∀ b, okOf st.regs φ b → ok b) (hb : ∀ b, (φ r).blk = some b → ok b) : VRel ok w (.ro τ) xs (.slice (φ r).addr xs.length (φ r).cap) := by
  have hg := R.rg r _ h
  refine ⟨⟨(φ r).addr, (φ r).cap, rfl, hg.1, ?_⟩, rfl, rfl⟩
  have h2 := hg.2
  cases hbl : (φ r).blk with
  | none =>
    simp only [hbl] at h2
    left
    have := hg.1
    rw [h2] at this
    exact List.length_eq_zero_iff.1 (by omega)
  | some b =>
    simp only [hbl] at h2
    obtain ⟨cs, ty, fz, e1, e2, e3, e4⟩ := h2
    right
    exact ⟨b, (φ r).off, cs, ty, fz, by simp [Loc.addr, hbl], hb b hbl, e1, fun i hi => Ty.rd_mono (fun b o h1 h2 => ⟨hok b h1, h2⟩) _ _ _ (e4 i hi)⟩

theorem toVal_sound {cx : Cx} {φ : Phi} {st : St} {a : Act} {w : World} (R : RelF cx φ st a w) {v : SV} {t : Ty} {y : t.den} {l : List Nat} {V : Value}
    (h : toVal st.regs v t = some (y, l)) (hv : SVRel st.regs φ (okOf st.regs φ) w v V) : VRel (okOf (dels st.regs l) φ) w t y V := by
  unfold toVal at h
  split at h
  · rename_i u z
    rw [Option.map_eq_some_iff] at h
    obtain ⟨z', hz, e⟩ := h
    cases e
    obtain ⟨e1, e2⟩ := castTy_some hz
    subst e1; subst e2
    exact hv
  · split at h
    · cases h
      have hv' : V = .slice none 0 0 := hv
      subst hv'
      exact ⟨⟨none, 0, rfl, Nat.le_refl _, .inl rfl⟩, rfl, rfl⟩
    · cases h
  · rename_i r
    split at h
    · rename_i τ
      split at h
      · rename_i τ' xs hl
        rw [Option.map_eq_some_iff] at h
        obtain ⟨z', hz, e⟩ := h
        cases e
        obtain ⟨e1, e2⟩ := castTy_some hz
        cases e1
        subst e2
        have hV : V = _ := hv _ _ hl
        subst hV
        refine row_val R hl _ (fun b hb => ⟨fun s g hs => ?_, hb.2⟩) (fun b hb => ⟨fun s g hs => ?_, (R.bs b).2 ((R.fr r _ b hl hb).elim .inl (fun h => .inr (.inl h)))⟩)
        · rw [look_dels] at hs
          split at hs
          · cases hs
          · exact hb.1 s g hs
        · intro hb2
          rw [look_dels] at hs
          split at hs
          · cases hs
          · rename_i hns
            exact hns (by rw [R.sep s r g _ b hs hl hb2 hb]; simp)
      · cases h
    · cases h
  · cases h

/-! ### load -/
def loadV (P : Program) (rs : Regs) (t : TypeId) (x : SV) : Option SV :=
  match x with
  | .ra u y => if fits P t u = true then some (.val u y) else none
  | .addr r p => match look rs r with
    | some (.box τ x) => match pty τ p with
      | some u => if fits P t u = true then (pget τ x p u).map (fun y => SV.val u y) else none
      | none => none
    | some (.row τ xs) => match p with
      | .idx i :: p => match pty τ p with
        | some u => if fits P t u = true then (pget τ (xs.getD i.toNat τ.dflt) p u).map (fun y => SV.val u y) else none
        | none => none
      | _ => none
    | _ => none
  | _ => none

theorem loadV_sound {cx : Cx} {φ : Phi} {st : St} {a : Act} {w : World} (R : RelF cx φ st a w) {t : TypeId} {x v : SV} {X : Value}
    (h : loadV cx.P st.regs t x = some v) (hx : SVRel st.regs φ (okOf st.regs φ) w x X) :
    ∃ V, (Instr.loadAt t X).run cx.P w = .ok V w ∧ SVRel st.regs φ (okOf st.regs φ) w v V := by
  unfold loadV at h
  split at h
  · rename_i u y
    split at h
    · rename_i hf
      cases h
      obtain ⟨b, o, cs, ty, fz, e1, e2, e3, e4⟩ := hx
      obtain ⟨V, hV, hr⟩ := run_loadVar_rd hf e3 e4
      refine ⟨V, ?_, hr⟩
      simp only [Instr.loadAt, e1, Instr.sureAddr, Sem.run_bind, Sem.run_pure, Result.andThen_ok, hV]
    · cases h
  · rename_i r p
    split at h
    · rename_i τ x hl
      split at h
      · rename_i u hp
        split at h
        · rename_i hf
          rw [Option.map_eq_some_iff] at h
          obtain ⟨y, hy, e⟩ := h
          subst e
          obtain ⟨b, e1, e2, e3⟩ := hx _ hl
          obtain ⟨_, b', cs, ty, fz, f1, f2, f3, f4, f5⟩ := R.rg r _ hl
          rw [e1] at f1; cases f1
          have := rd_pget p τ x _ u y f5 e2 hy
          obtain ⟨V, hV, hr⟩ := run_loadVar_rd hf f2 this
          refine ⟨V, ?_, hr⟩
          simp only [Instr.loadAt, e3, Instr.sureAddr, Sem.run_bind, Sem.run_pure, Result.andThen_ok, hV]
        · cases h
      · cases h
    · rename_i τ xs hl
      split at h
      · rename_i i p
        split at h
        · rename_i u hp
          split at h
          · rename_i hf
            rw [Option.map_eq_some_iff] at h
            obtain ⟨y, hy, e⟩ := h
            subst e
            obtain ⟨i', p', b, e0, e1, e2, e3, e4, e5⟩ := hx _ hl
            cases e0
            have h2 := (R.rg r _ hl).2
            simp only [e4] at h2
            obtain ⟨cs, ty, fz, f1, f2, f3, f4⟩ := h2
            have hi : i.toNat < xs.length := by omega
            have e : xs.getD i.toNat τ.dflt = xs[i.toNat] := by simp [List.getD, List.getElem?_eq_getElem hi]
            rw [e] at hy
            have := rd_pget p τ _ _ u y (f4 i.toNat hi) e3 hy
            simp only [← Nat.add_assoc] at this
            obtain ⟨V, hV, hr⟩ := run_loadVar_rd hf f1 this
            refine ⟨V, ?_, hr⟩
            simp only [Instr.loadAt, e5, Instr.sureAddr, Sem.run_bind, Sem.run_pure, Result.andThen_ok, hV]
          · cases h
        · cases h
      · cases h
    · cases h
  · cases h

/-! ### store -/
def storeV (P : Program) (rs : Regs) (t : TypeId) (x v : SV) : Option Eff :=
  match x with
  | .addr r p => match look rs r with
    | some (.box τ x) => match pty τ p with
      | some u => match toVal rs v u with
        | some (y, l) => if sizeT P t = some u.sz ∧ r ∉ l then (pset τ x p u y).map (fun x' => l.map EffI.del ++ [EffI.set (some r) r (.box τ x')]) else none
        | none => none
      | none => none
    | some (.row τ xs) => match p with
      | .idx i :: p => match pty τ p with
        | some u => match toVal rs v u with
          | some (y, l) => if sizeT P t = some u.sz ∧ r ∉ l then
              (pset τ (xs.getD i.toNat τ.dflt) p u y).map (fun x' => l.map EffI.del ++ [EffI.set (some r) r (.row τ (xs.set i.toNat x'))]) else none
          | none => none
        | none => none
      | _ => none
    | _ => none
  | _ => none

theorem app_dels (rs : Regs) (e : Eff) : ∀ (l : List Nat), Eff.app rs (l.map EffI.del ++ e) = Eff.app (dels rs l) e
  | [] => rfl
  | r :: l => by simp only [List.map_cons, List.cons_append, Eff.app, EffI.app, dels]; exact app_dels (drop rs r) e l

theorem okOf_dels {rs : Regs} {φ : Phi} (l : List Nat) {b : Nat} (h : okOf rs φ b) : okOf (dels rs l) φ b := by
  refine ⟨fun s g hs => ?_, h.2⟩
  rw [look_dels] at hs
  split at hs
  · cases hs
  · exact h.1 s g hs

theorem storeV_sound {cx : Cx} {φ : Phi} {st : St} {a : Act} {w : World} (R : RelF cx φ st a w) {t : TypeId} {x v : SV} {e : Eff} {X V : Value}
    (h : storeV cx.P st.regs t x v = some e) (hx : SVRel st.regs φ (okOf st.regs φ) w x X) (hv : SVRel st.regs φ (okOf st.regs φ) w v V) :
    ∃ w', (Instr.storeAt t X V).run cx.P w = .ok () w' ∧ RelF cx φ { st with regs := e.app st.regs } a w' := by
  unfold storeV at h
  split at h
  · rename_i r p
    split at h
    · rename_i τ x hl
      split at h
      · rename_i u hp
        split at h
        · rename_i y l htv
          split at h
          · rename_i hc
            obtain ⟨hsz, hnl⟩ := hc
            rw [Option.map_eq_some_iff] at h
            obtain ⟨x', hx', e⟩ := h
            subst e
            have R1 := R.dels l
            have hV := toVal_sound R htv hv
            obtain ⟨b, e1, e2, e3⟩ := hx _ hl
            have hl1 : look (dels st.regs l) r = some (.box τ x) := by rw [look_dels, if_neg hnl]; exact hl
            obtain ⟨f0, b', cs, ty, fz, f1, f2, f3, f4, f5⟩ := R1.rg r _ hl1
            rw [e1] at f1; cases f1
            have hb := poff_le p τ u e2 hp
            obtain ⟨w', cs', g1, g2, g3, g4, g5⟩ := run_storeVar_rd (P := cx.P) (b := b) (o := poff τ p) hsz f2 f3 (by omega) hV
            refine ⟨w', ?_, ?_⟩
            · simp only [Instr.storeAt, e3, Instr.sureAddr, Sem.run_bind, Sem.run_pure, Result.andThen_ok, g1]
            · rw [app_dels]
              have hstep := R1.step (w' := w') (some r) r (.box τ x') (φ r)
                (fun b0 hb0 => .inr ⟨r, _, rfl, hl1, hb0⟩) (fun b0 _ hne => g2.other b0 (fun e0 => hne (by rw [e1, e0])))
                (.inr ⟨rfl, rfl, _, hl1, rfl⟩) (fun l0 _ hf => by have := hf.1; rw [hl1] at this; cases this)
                ⟨f0, b, cs', ty, fz, e1, g2.at_, by rw [g3]; exact f3, by rw [g3]; exact f4,
                  rd_pset p τ x _ _ u y x' _ f5 e2 hx' hV.1 (fun j hj => g4 j hj) (fun j hj => g5 j hj)⟩
                g2.os g2.tape g2.output (by rw [g2.size]; exact Nat.le_refl _)
              have hφ : setLoc φ r (φ r) = φ := setLoc_self φ r
              rw [hφ] at hstep
              exact hstep
          · cases h
        · cases h
      · cases h
    · rename_i τ xs hl
      split at h
      · rename_i i p
        split at h
        · rename_i u hp
          split at h
          · rename_i y l htv
            split at h
            · rename_i hc
              obtain ⟨hsz, hnl⟩ := hc
              rw [Option.map_eq_some_iff] at h
              obtain ⟨x', hx', e⟩ := h
              subst e
              have R1 := R.dels l
              have hV := toVal_sound R htv hv
              obtain ⟨i', p', b, e0, e1, e2, e3, e4, e5⟩ := hx _ hl
              cases e0
              have hl1 : look (dels st.regs l) r = some (.row τ xs) := by rw [look_dels, if_neg hnl]; exact hl
              have hr1 := R1.rg r _ hl1
              have h2 := hr1.2
              simp only [e4] at h2
              obtain ⟨cs, ty, fz, f1, f2, f3, f4⟩ := h2
              have hi : i.toNat < xs.length := by omega
              have hcap := hr1.1
              have e : xs.getD i.toNat τ.dflt = xs[i.toNat] := by simp [List.getD, List.getElem?_eq_getElem hi]
              rw [e] at hx'
              have hb := poff_le p τ u e3 hp
              have hfit : (φ r).off + i.toNat * τ.sz + poff τ p + u.sz ≤ cs.size := by
                have h3 : (i.toNat + 1) * τ.sz ≤ (φ r).cap * τ.sz := Nat.mul_le_mul_right _ (by omega)
                rw [Nat.add_mul] at h3
                omega
              obtain ⟨w', cs', g1, g2, g3, g4, g5⟩ := run_storeVar_rd (P := cx.P) (b := b) (o := (φ r).off + i.toNat * τ.sz + poff τ p) hsz f1 f2 hfit hV
              refine ⟨w', ?_, ?_⟩
              · simp only [Instr.storeAt, e5, Instr.sureAddr, Sem.run_bind, Sem.run_pure, Result.andThen_ok, g1]
              · rw [app_dels]
                have hstep := R1.step (w' := w') (some r) r (.row τ (xs.set i.toNat x')) (φ r)
                  (fun b0 hb0 => .inr ⟨r, _, rfl, hl1, hb0⟩) (fun b0 _ hne => g2.other b0 (fun e0 => hne (by rw [e4, e0])))
                  (.inr ⟨rfl, rfl, _, hl1, ⟨rfl, by simp⟩⟩) (fun l0 _ hf => by have := hf.1; rw [hl1] at this; cases this)
                  (by
                    refine ⟨by simpa using hcap, ?_⟩
                    simp only [e4]
                    refine ⟨cs', ty, fz, g2.at_, by rw [g3]; exact f2, by rw [g3]; exact f3, fun k hk => ?_⟩
                    have hk' : k < xs.length := by simpa using hk
                    by_cases hki : k = i.toNat
                    · subst hki
                      have : (xs.set i.toNat x')[i.toNat]'hk = x' := by simp
                      rw [this]
                      refine rd_pset p τ _ _ _ u y x' _ (f4 i.toNat hi) e3 hx' hV.1 (fun j hj => g4 _ (by omega)) (fun j hj => ?_)
                      have := g5 j hj
                      simpa only [Nat.add_assoc] using this
                    · have : (xs.set i.toNat x')[k]'hk = xs[k] := by rw [List.getElem_set_ne (by omega)]
                      rw [this]
                      refine Ty.rd_congr _ _ _ _ (fun j hj => (g4 _ ?_).symm) (f4 k hk')
                      rcases Nat.lt_or_gt_of_ne hki with hlt | hgt
                      · left
                        have h5 : (k + 1) * τ.sz ≤ i.toNat * τ.sz := Nat.mul_le_mul_right _ hlt
                        rw [Nat.add_mul] at h5
                        omega
                      · right
                        have h5 : (i.toNat + 1) * τ.sz ≤ k * τ.sz := Nat.mul_le_mul_right _ hgt
                        rw [Nat.add_mul] at h5
                        omega)
                  g2.os g2.tape g2.output (by rw [g2.size]; exact Nat.le_refl _)
                have hφ : setLoc φ r (φ r) = φ := setLoc_self φ r
                rw [hφ] at hstep
                exact hstep
            · cases h
          · cases h
        · cases h
      · cases h
    · cases h
  · cases h

end Go.Lift
/- Addresses and makers, abstract, and that they tell what the machine does. -/
namespace Go.Lift
open Go

/-! ### paths joined -/
theorem pty_append : ∀ (p : List Step) (t u : Ty) (q : List Step), pty t p = some u → pty t (p ++ q) = pty u q := by
  intro p
  induction p with
  | nil => intro t u q h; simp only [pty, Option.some.injEq] at h; subst h; rfl
  | cons s p ih =>
    intro t u q h
    cases t <;> cases s <;> simp only [pty, List.cons_append] at h ⊢ <;> first | exact ih _ _ _ h | cases h
theorem poff_append : ∀ (p : List Step) (t u : Ty) (q : List Step), pty t p = some u → poff t (p ++ q) = poff t p + poff u q := by
  intro p
  induction p with
  | nil => intro t u q h; simp only [pty, Option.some.injEq] at h; subst h; simp [poff]
  | cons s p ih =>
    intro t u q h
    cases t <;> cases s <;> simp only [pty, List.cons_append, poff] at h ⊢ <;> first | (cases h; done) | (rw [ih _ _ _ h]; done) | (rw [ih _ _ _ h]; omega)
theorem pok_append : ∀ (p : List Step) (t u : Ty) (q : List Step), pty t p = some u → pok t p → pok u q → pok t (p ++ q) := by
  intro p
  induction p with
  | nil => intro t u q h _ hq; simp only [pty, Option.some.injEq] at h; subst h; exact hq
  | cons s p ih =>
    intro t u q h hp hq
    cases t <;> cases s <;> simp only [pty, List.cons_append, pok] at h hp ⊢ <;> try (cases h; done)
    · exact ih _ _ _ h hp hq
    · exact ih _ _ _ h hp hq
    · exact ⟨hp.1, hp.2.1, ih _ _ _ h hp.2.2 hq⟩

def fpath : Nat → List Step
  | 0 => [.fst]
  | k + 1 => .snd :: fpath k
theorem pok_fpath : ∀ (k : Nat) (t u : Ty), pty t (fpath k) = some u → pok t (fpath k) := by
  intro k
  induction k with
  | zero => intro t u h; cases t <;> simp only [fpath, pty, pok] at h ⊢ <;> cases h
  | succ k ih => intro t u h; cases t <;> simp only [fpath, pty, pok] at h ⊢ <;> first | exact ih _ _ h | cases h

/-- Field k of a struct type: its type's number, its offset. -/
def fieldOf (P : Program) (s : TypeId) (k : Nat) : Option (TypeId × Nat) :=
  match P.underlying s with
  | some (.struct fs) => (fs[k]?).map fun f => (f.type, f.offset)
  | _ => none

theorem run_fieldAt {P : Program} {s : TypeId} {k ft off : Nat} {sz : Nat} (h : fieldOf P s k = some (ft, off)) (hs : sizeT P ft = some sz) (h0 : sz ≠ 0) (b o : Nat) (w : World) :
    (Instr.fieldAt s (.pointer (some ⟨b, o, none⟩)) k).run P w = .ok (.pointer (some ⟨b, o + off, none⟩)) w := by
  unfold fieldOf at h
  split at h
  · rename_i fs hu
    rw [Option.map_eq_some_iff] at h
    obtain ⟨f, hf, e⟩ := h
    cases e
    simp [Instr.fieldAt, run_underlying hu, hf, Instr.sureAddr, fieldPlace, run_sizeOf hs, h0, add_mk]
  · cases h

def fieldA (P : Program) (rs : Regs) (s : TypeId) (x : SV) (k : Nat) : Option (List Prop × SV × Eff) :=
  match fieldOf P s k with
  | none => none
  | some (ft, off) =>
    match x with
    | .ra t x => match pty t (fpath k) with
      | some u => if sizeT P ft = some u.sz ∧ u.sz ≠ 0 ∧ poff t (fpath k) = off then (pget t x (fpath k) u).map (fun y => ([], .ra u y, [])) else none
      | none => none
    | .addr r p => match look rs r with
      | some (.box τ _) => match pty τ p with
        | some u0 => match pty u0 (fpath k) with
          | some u => if sizeT P ft = some u.sz ∧ u.sz ≠ 0 ∧ poff u0 (fpath k) = off then some ([], .addr r (p ++ fpath k), []) else none
          | none => none
        | none => none
      | some (.row τ _) => match p with
        | .idx i :: p => match pty τ p with
          | some u0 => match pty u0 (fpath k) with
            | some u => if sizeT P ft = some u.sz ∧ u.sz ≠ 0 ∧ poff u0 (fpath k) = off then some ([], .addr r (.idx i :: (p ++ fpath k)), []) else none
            | none => none
          | none => none
        | _ => none
      | some (.obox τ o) => match p with
        | [] => match pty τ (fpath k) with
          | some u => if sizeT P ft = some u.sz ∧ u.sz ≠ 0 ∧ poff τ (fpath k) = off then some ([o.isSome = true], .addr r (fpath k), [.set (some r) r (.box τ (o.getD τ.dflt))]) else none
          | none => none
        | _ => none
      | none => none
    | _ => none

/-- A region that may be nothing, and is something, is a box. -/
theorem RelF.open {cx : Cx} {φ : Phi} {st : St} {a : Act} {w : World} (R : RelF cx φ st a w) {r : Nat} {τ : Ty} {o : Option τ.den} (hl : look st.regs r = some (.obox τ o)) (ho : o.isSome = true) :
    RelF cx φ { st with regs := upd (without st.regs (some r)) r (some (.box τ (o.getD τ.dflt))) } a w := by
  obtain ⟨x, rfl⟩ := Option.isSome_iff_exists.1 ho
  have h2 := R.rg r _ hl
  obtain ⟨f0, b, cs, ty, fz, f1, f2, f3, f4, f5⟩ := h2
  have hstep := R.step (w' := w) (some r) r (.box τ x) (φ r)
    (fun b0 hb0 => .inr ⟨r, _, rfl, hl, hb0⟩) (fun b0 _ hne => rfl)
    (.inr ⟨rfl, rfl, _, hl, rfl⟩) (fun l0 _ hf => by have := hf.1; rw [hl] at this; cases this)
    ⟨f0, b, cs, ty, fz, f1, f2, f3, f4, f5⟩ rfl rfl rfl (Nat.le_refl _)
  have hφ : setLoc φ r (φ r) = φ := setLoc_self φ r
  rw [hφ] at hstep
  exact hstep

theorem fieldA_sound {cx : Cx} {φ : Phi} {st : St} {a : Act} {w : World} (R : RelF cx φ st a w) {s : TypeId} {k : Nat} {x v : SV} {vc : List Prop} {e : Eff} {X : Value}
    (h : fieldA cx.P st.regs s x k = some (vc, v, e)) (hvc : ∀ p ∈ vc, p) (hx : SVRel st.regs φ (okOf st.regs φ) w x X) :
    ∃ V, (Instr.fieldAt s X k).run cx.P w = .ok V w ∧ RelF cx φ { st with regs := e.app st.regs } a w ∧ SVRel (e.app st.regs) φ (okOf (e.app st.regs) φ) w v V := by
  unfold fieldA at h
  split at h
  · cases h
  · rename_i ft off hfo
    split at h
    · rename_i t x
      split at h
      · rename_i u hp
        split at h
        · rename_i hc
          obtain ⟨hsz, h0, hoff⟩ := hc
          rw [Option.map_eq_some_iff] at h
          obtain ⟨y, hy, e⟩ := h
          cases e
          obtain ⟨b, o, cs, ty, fz, e1, e2, e3, e4⟩ := hx
          subst e1
          have := rd_pget _ _ _ _ _ _ e4 (pok_fpath k t u hp) hy
          refine ⟨_, run_fieldAt hfo hsz h0 b o w, R, ⟨b, o + off, cs, ty, fz, rfl, e2, e3, ?_⟩⟩
          rw [hoff] at this
          exact (by simpa only [Nat.add_assoc] using this : u.rd (okOf st.regs φ) w y (fun j => cs[o + off + j]?))
        · cases h
      · cases h
    · rename_i r p
      split at h
      · rename_i τ y hl
        split at h
        · rename_i u0 hp0
          split at h
          · rename_i u hp
            split at h
            · rename_i hc
              obtain ⟨hsz, h0, hoff⟩ := hc
              cases h
              obtain ⟨b, e1, e2, e3⟩ := hx _ hl
              subst e3
              refine ⟨_, run_fieldAt hfo hsz h0 _ _ w, R, ?_⟩
              intro g hg
              have hg' : look st.regs r = some g := hg
              rw [hl] at hg'; cases hg'
              refine ⟨b, e1, pok_append _ _ _ _ hp0 e2 (pok_fpath k u0 u hp), ?_⟩
              rw [poff_append _ _ _ _ hp0, hoff]
            · cases h
          · cases h
        · cases h
      · rename_i τ xs hl
        split at h
        · rename_i i p
          split at h
          · rename_i u0 hp0
            split at h
            · rename_i u hp
              split at h
              · rename_i hc
                obtain ⟨hsz, h0, hoff⟩ := hc
                cases h
                obtain ⟨i', p', b, e0, e1, e2, e3, e4, e5⟩ := hx _ hl
                cases e0
                subst e5
                refine ⟨_, run_fieldAt hfo hsz h0 _ _ w, R, ?_⟩
                intro g hg
                have hg' : look st.regs r = some g := hg
                rw [hl] at hg'; cases hg'
                refine ⟨i, p ++ fpath k, b, rfl, e1, e2, pok_append _ _ _ _ hp0 e3 (pok_fpath k u0 u hp), e4, ?_⟩
                rw [poff_append _ _ _ _ hp0, hoff]
                simp only [Nat.add_assoc]
              · cases h
            · cases h
          · cases h
        · cases h
      · rename_i τ o hl
        split at h
        · split at h
          · rename_i u hp
            split at h
            · rename_i hc
              obtain ⟨hsz, h0, hoff⟩ := hc
              cases h
              have ho : o.isSome = true := hvc _ (by simp)
              have R1 := R.open hl ho
              obtain ⟨_, e2, e3⟩ := hx _ hl
              rw [ho] at e2
              obtain ⟨b, hb⟩ := Option.isSome_iff_exists.1 e2
              rw [hb] at e3
              have e3' : X = .pointer (some ⟨b, 0, none⟩) := e3
              subst e3'
              refine ⟨_, run_fieldAt hfo hsz h0 _ _ w, R1, ?_⟩
              intro g hg
              have hg' : look (upd (without st.regs (some r)) r (some (.box τ (o.getD τ.dflt)))) r = some g := hg
              rw [look_upd, if_pos rfl] at hg'
              cases hg'
              exact ⟨b, hb, pok_fpath k τ u hp, by rw [hoff, Nat.zero_add]⟩
            · cases h
          · cases h
        · cases h
      · cases h
    · cases h

/-! ### places of arrays and slices -/
def indexA (P : Program) (rs : Regs) (t : TypeId) (x i : SV) : Option (List Prop × SV) :=
  match i with
  | .val (.int _) i =>
    match P.underlying t, x with
    | some (.slice e), .sl r => match look rs r with
      | some (.row τ xs) => if sizeT P e = some τ.sz then some ([0 ≤ i, i < (xs.length : Int)], .addr r [.idx i]) else none
      | _ => none
    | some (.slice e), .val (.ro τ) xs => if sizeT P e = some τ.sz then some ([0 ≤ i, i < (List.length xs : Int)], .ra τ (List.getD xs i.toNat τ.dflt)) else none
    | some (.array n e), .addr r p => match look rs r with
      | some (.box τ _) => match pty τ p with
        | some (.arr m τ') => if sizeT P e = some τ'.sz ∧ n = m then some ([0 ≤ i, i < (m : Int)], .addr r (p ++ [.idx i])) else none
        | _ => none
      | some (.row τ _) => match p with
        | .idx j :: p => match pty τ p with
          | some (.arr m τ') => if sizeT P e = some τ'.sz ∧ n = m then some ([0 ≤ i, i < (m : Int)], .addr r (.idx j :: (p ++ [.idx i]))) else none
          | _ => none
        | _ => none
      | _ => none
    | some (.array n e), .ra (.arr m τ) xs => if sizeT P e = some τ.sz ∧ n = m then some ([0 ≤ i, i < (m : Int)], .ra τ (List.getD xs i.toNat τ.dflt)) else none
    | _, _ => none
  | _ => none

theorem run_indexAt_sl {P : Program} {t e : TypeId} {sz : Nat} (hu : P.underlying t = some (.slice e)) (hs : sizeT P e = some sz) (b o len cap : Nat) (k : IntKind) (i : Int) (h0 : 0 ≤ i) (h1 : i < (len : Int)) (w : World) :
    (Instr.indexAt t (.slice (some ⟨b, o, none⟩) len cap) (.int k i)).run P w = .ok (.pointer (some ⟨b, o + i.toNat * sz, none⟩)) w := by
  simp [Instr.indexAt, run_underlying hu, asIntOf, h0, h1, run_sizeOf hs, add_mk]
theorem run_indexAt_arr {P : Program} {t e : TypeId} {n sz : Nat} (hu : P.underlying t = some (.array n e)) (hs : sizeT P e = some sz) (b o : Nat) (k : IntKind) (i : Int) (h0 : 0 ≤ i) (h1 : i < (n : Int)) (w : World) :
    (Instr.indexAt t (.pointer (some ⟨b, o, none⟩)) (.int k i)).run P w = .ok (.pointer (some ⟨b, o + i.toNat * sz, none⟩)) w := by
  simp [Instr.indexAt, run_underlying hu, asIntOf, h0, h1, run_sizeOf hs, add_mk, Instr.sureAddr]

theorem indexA_sound {cx : Cx} {φ : Phi} {st : St} {a : Act} {w : World} (R : RelF cx φ st a w) {t : TypeId} {x i v : SV} {vc : List Prop} {X I : Value}
    (h : indexA cx.P st.regs t x i = some (vc, v)) (hvc : ∀ p ∈ vc, p) (hx : SVRel st.regs φ (okOf st.regs φ) w x X) (hi : SVRel st.regs φ (okOf st.regs φ) w i I) :
    ∃ V, (Instr.indexAt t X I).run cx.P w = .ok V w ∧ SVRel st.regs φ (okOf st.regs φ) w v V := by
  unfold indexA at h
  split at h
  · rename_i k n
    have eI : I = .int k n := VRel.int_eq hi
    subst eI
    split at h
    · rename_i e r hu
      split at h
      · rename_i τ xs hl
        split at h
        · rename_i hs
          cases h
          have h0 : @LE.le Int _ 0 n := hvc _ (by simp)
          have h1 : @LT.lt Int _ n (xs.length : Int) := hvc _ (by simp)
          have hX := hx _ _ hl
          have h2 := (R.rg r _ hl)
          cases hbl : (φ r).blk with
          | none =>
            have h3 := h2.2
            simp only [hbl] at h3
            have h4 : xs.length ≤ (φ r).cap := h2.1
            omega
          | some b =>
            have hX' : X = .slice (some ⟨b, (φ r).off, none⟩) xs.length (φ r).cap := by rw [hX]; simp [Loc.addr, hbl]
            subst hX'
            refine ⟨_, run_indexAt_sl hu hs _ _ _ _ k n h0 h1 w, ?_⟩
            intro g hg
            rw [hl] at hg; cases hg
            exact ⟨n, [], b, rfl, h0, h1, by simp [pok], hbl, by simp [poff]⟩
        · cases h
      · cases h
    · rename_i e τ xs hu
      split at h
      · rename_i hs
        cases h
        have h0 : @LE.le Int _ 0 n := hvc _ (by simp)
        have h1 : @LT.lt Int _ n (List.length xs : Int) := hvc _ (by simp)
        have hV : VRel _ _ _ _ _ := hx
        obtain ⟨a0, cap, g0, g1, g2⟩ := hV.1
        rw [hV.cells_one rfl] at g0
        have hX : X = .slice a0 (List.length xs) cap := by simpa using g0
        subst hX
        rcases g2 with g2 | ⟨b, off, cs, ty, fz, f1, f2, f3, f4⟩
        · rw [g2] at h1; simp at h1; omega
        · subst f1
          have hi' : n.toNat < List.length xs := by omega
          refine ⟨_, run_indexAt_sl hu hs _ _ _ _ k n h0 h1 w, ⟨b, off + n.toNat * τ.sz, cs, ty, fz, rfl, f2, f3, ?_⟩⟩
          have e : List.getD xs n.toNat τ.dflt = xs[n.toNat] := by simp [List.getD, List.getElem?_eq_getElem hi']
          rw [e]
          exact f4 n.toNat hi'
      · cases h
    · rename_i m e r p hu
      split at h
      · rename_i τ y hl
        split at h
        · rename_i m' τ' hp
          split at h
          · rename_i hc
            obtain ⟨hs, rfl⟩ := hc
            cases h
            have h0 : @LE.le Int _ 0 n := hvc _ (by simp)
            have h1 : @LT.lt Int _ n (m : Int) := hvc _ (by simp)
            obtain ⟨b, e1, e2, e3⟩ := hx _ hl
            subst e3
            refine ⟨_, run_indexAt_arr hu hs _ _ k n h0 h1 w, ?_⟩
            intro g hg
            rw [hl] at hg; cases hg
            exact ⟨b, e1, pok_append _ _ _ _ hp e2 ⟨h0, h1, by simp [pok]⟩, by rw [poff_append _ _ _ _ hp]; simp [poff]⟩
          · cases h
        · cases h
      · rename_i τ xs hl
        split at h
        · rename_i j p
          split at h
          · rename_i m' τ' hp
            split at h
            · rename_i hc
              obtain ⟨hs, rfl⟩ := hc
              cases h
              have h0 : @LE.le Int _ 0 n := hvc _ (by simp)
              have h1 : @LT.lt Int _ n (m : Int) := hvc _ (by simp)
              obtain ⟨i', p', b, e0, e1, e2, e3, e4, e5⟩ := hx _ hl
              cases e0
              subst e5
              refine ⟨_, run_indexAt_arr hu hs _ _ k n h0 h1 w, ?_⟩
              intro g hg
              rw [hl] at hg; cases hg
              refine ⟨j, p ++ [.idx n], b, rfl, e1, e2, pok_append p τ (.arr m τ') [.idx n] hp e3 ⟨h0, h1, by simp [pok]⟩, e4, ?_⟩
              rw [poff_append _ _ _ _ hp]
              simp [poff, Nat.add_assoc]
            · cases h
          · cases h
        · cases h
      · cases h
    · rename_i m e m' τ xs hu
      split at h
      · rename_i hc
        obtain ⟨hs, rfl⟩ := hc
        cases h
        have h0 : @LE.le Int _ 0 n := hvc _ (by simp)
        have h1 : @LT.lt Int _ n (m : Int) := hvc _ (by simp)
        obtain ⟨b, o, cs, ty, fz, e1, e2, e3, e4⟩ := hx
        subst e1
        have hl := e4.1
        have hi' : n.toNat < List.length xs := by omega
        have e : List.getD xs n.toNat τ.dflt = xs[n.toNat] := by simp [List.getD, List.getElem?_eq_getElem hi']
        refine ⟨_, run_indexAt_arr hu hs _ _ k n h0 h1 w, ⟨b, o + n.toNat * τ.sz, cs, ty, fz, rfl, e2, e3, ?_⟩⟩
        rw [e]
        have := e4.2 n.toNat hi'
        simpa only [Nat.add_assoc] using this
      · cases h
    · cases h
  · cases h

end Go.Lift
