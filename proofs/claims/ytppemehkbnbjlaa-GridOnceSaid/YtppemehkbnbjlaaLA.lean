/- Lines for the functions of this seat; merged from texts of their own. -/
import Derived.Orders
import Derived.Below
import Derived.KernelRfl
import Derived.Laws.Entries
import Derived.Laws.Cells
import Derived.Laws.MakeOwn
import Derived.Laws.IdiomCopy
import Derived.Laws.BytesArg
import Derived.Laws.IdiomStrings
import Derived.MapKept
set_option linter.unusedVariables false
set_option linter.unusedSimpArgs false
/- The value side of a verified abstract interpreter: types, what they denote, how a value of a type reads in memory, paths into it. -/
namespace Go.Lift
open Go

inductive Ty where
  | int (k : IntKind)
  | bool
  | str
  | unit
  | ro (t : Ty)
  | pair (a b : Ty)
  | arr (n : Nat) (t : Ty)
  | own (t : Ty)                 -- a slice of its own
  | ptr (t : Ty)                 -- a pointer of its own, or nil
  | map (k v : Ty)               -- a map of its own, or nil
  deriving DecidableEq

@[reducible] def Ty.den : Ty → Type
  | .int _ => Int
  | .bool => Bool
  | .str => ByteArray
  | .unit => Unit
  | .ro t => List t.den
  | .pair a b => a.den × b.den
  | .arr _ t => List t.den
  | .own t => List t.den
  | .ptr t => Option t.den
  | .map k v => Option (List (k.den × v.den))

def Ty.dflt : (t : Ty) → t.den
  | .int _ => (0 : Int)
  | .bool => false
  | .str => ByteArray.empty
  | .unit => ()
  | .ro _ => []
  | .pair a b => (a.dflt, b.dflt)
  | .arr n t => List.replicate n t.dflt
  | .own _ => []
  | .ptr _ => none
  | .map _ _ => none

def Ty.sz : Ty → Nat
  | .int _ => 1
  | .bool => 1
  | .str => 1
  | .unit => 0
  | .ro _ => 1
  | .pair a b => a.sz + b.sz
  | .arr n t => n * t.sz
  | .own _ => 1
  | .ptr _ => 1
  | .map _ _ => 1

def Ty.agg : Ty → Bool
  | .pair _ _ => true
  | .arr _ _ => true
  | .unit => true
  | _ => false
/-- Does nothing of its own lie in it? -/
def Ty.plain : Ty → Bool
  | .pair a b => a.plain && b.plain
  | .arr _ t => t.plain
  | .own _ => false
  | .ptr _ => false
  | .map _ _ => false
  | _ => true

def castTy (t u : Ty) (x : t.den) : Option u.den := if h : t = u then some (h ▸ x) else none
theorem castTy_self (t : Ty) (x : t.den) : castTy t t x = some x := by simp [castTy]
theorem castTy_some {t u : Ty} {x : t.den} {y : u.den} (h : castTy t u x = some y) : ∃ e : t = u, e ▸ x = y := by
  unfold castTy at h
  split at h
  · rename_i e; exact ⟨e, by simpa using h⟩
  · cases h

/-! ### Paths, places -/
inductive Step where
  | fst
  | snd
  | idx (i : Int)
  | deref
  | key (k : Int)
  deriving DecidableEq

/-- Where a slice, a pointer, a map of a place lies; hd: whether the place's own cell tells it. -/
structure Ref where
  blk : Option Nat
  off : Nat
  cap : Nat
  hd : Bool := true
def Ref.addr (l : Ref) : Option Addr := l.blk.map fun b => ⟨b, l.off, none⟩
abbrev Sub := List Step → Ref
def Sub.none : Sub := fun _ => ⟨Option.none, 0, 0, true⟩
def Sub.at (s : Sub) (p : List Step) : Sub := fun q => s (p ++ q)
theorem Sub.at_nil (s : Sub) : s.at [] = s := rfl
theorem Sub.at_at (s : Sub) (p q : List Step) : (s.at p).at q = s.at (p ++ q) := by funext r; simp [Sub.at]
@[simp] theorem Sub.none_at (p : List Step) : Sub.none.at p = Sub.none := rfl
/-- What lies behind p, if q does. -/
def after : List Step → List Step → Option (List Step)
  | [], q => some q
  | a :: p, b :: q => if a = b then after p q else none
  | _ :: _, [] => none
theorem after_app : ∀ (p q : List Step), after p (p ++ q) = some q
  | [], _ => rfl
  | a :: p, q => by simp [after, after_app p q]
theorem after_some : ∀ {p q r : List Step}, after p q = some r → q = p ++ r
  | [], q, r, h => by simp [after] at h; exact h
  | a :: p, [], r, h => by simp [after] at h
  | a :: p, b :: q, r, h => by
    simp only [after] at h
    split at h
    · rename_i e; subst e; rw [after_some h]; rfl
    · cases h
def Sub.put (s : Sub) (p : List Step) (s' : Sub) : Sub := fun q => match after p q with
  | some r => s' r
  | Option.none => s q
theorem Sub.put_self (s : Sub) (p : List Step) : s.put p (s.at p) = s := by
  funext q
  unfold Sub.put
  split
  · rename_i r h; rw [after_some h]; rfl
  · rfl
theorem Sub.put_nil (s s' : Sub) : s.put [] s' = s' := by funext q; simp [Sub.put, after]
theorem Sub.put_cons_at (s s' : Sub) (a : Step) (p : List Step) : (s.put (a :: p) s').at [a] = (s.at [a]).put p s' := by
  funext q
  simp only [Sub.put, Sub.at, List.cons_append, List.nil_append, after, if_true]
theorem Sub.put_cons_ne (s s' : Sub) {a b : Step} (h : a ≠ b) (p : List Step) : (s.put (a :: p) s').at [b] = s.at [b] := by
  funext q
  simp only [Sub.put, Sub.at, List.cons_append, List.nil_append, after, if_neg h]
/-- The places under a map's entry. -/
def Sub.ent (s : Sub) : (k : Ty) → k.den → Sub
  | .int _, x => s.at [.key x]
  | _, _ => Sub.none
theorem Sub.none_ent : ∀ (k : Ty) (x : k.den), Sub.none.ent k x = Sub.none := by intro k x; cases k <;> rfl

/-- None of the first n cells is frozen. -/
def Thawed (fz : Nat × Nat) (n : Nat) : Prop := ∀ i, i < n → (decide (fz.1 ≤ i) && decide (i < fz.2)) = false

def Value.isAgg : Value → Bool
  | .agg _ => true
  | _ => false

/-- The entries' stamps rise; no two keys are one. -/
def Stamped (ms : Array MapEntry) (clock : Nat) : Prop := (∀ i j (hi : i < ms.size) (hj : j < ms.size), i < j → ms[i].born < ms[j].born) ∧ ∀ i (hi : i < ms.size), ms[i].born < clock
def Differ {α β : Type} (es : List (α × β)) : Prop := ∀ i j (hi : i < es.length) (hj : j < es.length), i < j → es[i].1 ≠ es[j].1

/-- How a value of a type reads at cells. Of a place that is open nothing is said. -/
def Ty.rd (ok : Nat → Prop) (w : World) : (t : Ty) → Sub → t.den → (Nat → Option Value) → Prop
  | .int k, _, x, c => c 0 = some (.int k x)
  | .bool, _, x, c => c 0 = some (.bool x)
  | .str, _, x, c => c 0 = some (.string x)
  | .unit, _, _, _ => True
  | .ro t, _, xs, c => ∃ a cap, c 0 = some (.slice a (List.length xs) cap) ∧ List.length xs ≤ cap ∧
      (xs = [] ∨ ∃ b off cs ty fz, a = some ⟨b, off, none⟩ ∧ ok b ∧ w.heap[b]? = some (.cells cs ty fz) ∧
        ∀ i (h : i < List.length xs), t.rd ok w Sub.none (xs[i]'h) (fun j => cs[off + i * t.sz + j]?))
  | .pair a b, s, x, c => a.rd ok w (s.at [.fst]) x.1 c ∧ b.rd ok w (s.at [.snd]) x.2 (fun j => c (a.sz + j))
  | .arr n t, s, xs, c => List.length xs = n ∧ ∀ i (h : i < List.length xs), t.rd ok w (s.at [.idx i]) (xs[i]'h) (fun j => c (i * t.sz + j))
  | .own t, s, xs, c => (s []).hd = true → c 0 = some (.slice (s []).addr (List.length xs) (s []).cap) ∧ List.length xs ≤ (s []).cap ∧
      match (s []).blk with
      | none => (s []).cap = 0
      | some b => ∃ cs ty fz, w.heap[b]? = some (.cells cs ty fz) ∧ Thawed fz cs.size ∧ (s []).off + (s []).cap * t.sz ≤ cs.size ∧
          ∀ i (h : i < List.length xs), t.rd ok w (s.at [.idx i]) (xs[i]'h) (fun j => cs[(s []).off + i * t.sz + j]?)
  | .ptr t, s, o, c => (s []).hd = true → c 0 = some (.pointer ((s []).blk.map fun b => ⟨b, 0, none⟩)) ∧
      match o with
      | none => (s []).blk = none
      | some x => (s []).off = 0 ∧ ∃ b cs ty fz, (s []).blk = some b ∧ w.heap[b]? = some (.cells cs ty fz) ∧ Thawed fz cs.size ∧ cs.size = t.sz ∧ t.rd ok w (s.at [.deref]) x (fun j => cs[j]?)
  | .map k v, s, o, c => (s []).hd = true → c 0 = some (.map (s []).blk) ∧
      match o with
      | none => (s []).blk = none
      | some es => (s []).off = 0 ∧ ∃ b ms clock, (s []).blk = some b ∧ w.heap[b]? = some (.map ms clock) ∧ ms.size = List.length es ∧ Stamped ms clock ∧ Differ es ∧
          ∀ i (h : i < List.length es) (h' : i < ms.size), k.rd ok w Sub.none (es[i]'h).1 (fun j => ms[i].key.cells[j]?) ∧ ms[i].key.cells.size = k.sz ∧ Value.isAgg ms[i].key = k.agg ∧
            v.rd ok w (s.ent k (es[i]'h).1) (es[i]'h).2 (fun j => ms[i].val.cells[j]?) ∧ ms[i].val.cells.size = v.sz ∧ Value.isAgg ms[i].val = v.agg

theorem Ty.rd_mono' {ok ok' : Nat → Prop} {w w' : World} (h : ∀ b o, ok b → w.heap[b]? = some o → ok' b ∧ w'.heap[b]? = some o) :
    ∀ (t : Ty) (s : Sub) (x : t.den) (c : Nat → Option Value), (∀ p b, (s p).blk = some b → w'.heap[b]? = w.heap[b]?) → t.rd ok w s x c → t.rd ok' w' s x c := by
  intro t
  induction t with
  | int k => intro s x c _ hr; exact hr
  | bool => intro s x c _ hr; exact hr
  | str => intro s x c _ hr; exact hr
  | unit => intro s x c _ hr; exact hr
  | ro t ih =>
    intro s xs c _ hr
    obtain ⟨a, cap, h0, h1, h2⟩ := hr
    refine ⟨a, cap, h0, h1, ?_⟩
    rcases h2 with h2 | ⟨b, off, cs, ty, fz, ha, hok, hh, he⟩
    · exact .inl h2
    · exact .inr ⟨b, off, cs, ty, fz, ha, (h _ _ hok hh).1, (h _ _ hok hh).2, fun i hi => ih _ _ _ (fun p b hb => by cases hb) (he i hi)⟩
  | pair a b iha ihb => intro s x c hs hr; exact ⟨iha _ _ _ (fun p b hb => hs (.fst :: p) b hb) hr.1, ihb _ _ _ (fun p b hb => hs (.snd :: p) b hb) hr.2⟩
  | arr n t ih => intro s xs c hs hr; exact ⟨hr.1, fun i hi => ih _ _ _ (fun p b hb => hs (.idx i :: p) b hb) (hr.2 i hi)⟩
  | own t ih =>
    intro s xs c hs hr hd
    obtain ⟨h0, h1, h2⟩ := hr hd
    refine ⟨h0, h1, ?_⟩
    cases hb : (s []).blk with
    | none => simp only [hb] at h2 ⊢; exact h2
    | some b =>
      simp only [hb] at h2 ⊢
      obtain ⟨cs, ty, fz, e1, e2, e3, e4⟩ := h2
      exact ⟨cs, ty, fz, (hs [] b hb).trans e1, e2, e3, fun i hi => ih _ _ _ (fun p b hb => hs (.idx i :: p) b hb) (e4 i hi)⟩
  | ptr t ih =>
    intro s o c hs hr hd
    refine ⟨(hr hd).1, ?_⟩
    have h2 := (hr hd).2
    cases o with
    | none => exact h2
    | some x =>
      obtain ⟨h3, b, cs, ty, fz, e1, e2, e3, e4, e5⟩ := h2
      exact ⟨h3, b, cs, ty, fz, e1, (hs [] b e1).trans e2, e3, e4, ih _ _ _ (fun p b hb => hs (.deref :: p) b hb) e5⟩
  | map k v ihk ihv =>
    intro s o c hs hr hd
    refine ⟨(hr hd).1, ?_⟩
    have h2 := (hr hd).2
    cases o with
    | none => exact h2
    | some es =>
      obtain ⟨e0, b, ms, clock, e1, e2, e3, d1, d2, e4⟩ := h2
      refine ⟨e0, b, ms, clock, e1, (hs [] b e1).trans e2, e3, d1, d2, fun i hi hi' => ?_⟩
      obtain ⟨f1, f2, f3, f4, f5, f6⟩ := e4 i hi hi'
      refine ⟨ihk _ _ _ (fun p b hb => by cases hb) f1, f2, f3, ihv _ _ _ (fun p b hb => ?_) f4, f5, f6⟩
      cases k with
      | int kk => exact hs (.key _ :: p) b hb
      | _ => cases hb
/-- A value with nothing of its own. -/
theorem Ty.rd_mono {ok ok' : Nat → Prop} {w w' : World} (h : ∀ b o, ok b → w.heap[b]? = some o → ok' b ∧ w'.heap[b]? = some o) :
    ∀ (t : Ty) (x : t.den) (c : Nat → Option Value), t.rd ok w Sub.none x c → t.rd ok' w' Sub.none x c :=
  fun t x c hr => Ty.rd_mono' h t _ x c (fun p b hb => by cases hb) hr

theorem mul_lt_of {i n s j : Nat} (hi : i < n) (hj : j < s) : i * s + j < n * s := by
  have : (i + 1) * s ≤ n * s := Nat.mul_le_mul_right _ hi
  rw [Nat.add_mul] at this
  omega

theorem Ty.rd_congr {ok : Nat → Prop} {w : World} :
    ∀ (t : Ty) (s : Sub) (x : t.den) (c c' : Nat → Option Value), (∀ j, j < t.sz → c j = c' j) → t.rd ok w s x c → t.rd ok w s x c' := by
  intro t
  induction t with
  | int k => intro s x c c' h hr; exact (h 0 (by simp [Ty.sz])).symm.trans hr
  | bool => intro s x c c' h hr; exact (h 0 (by simp [Ty.sz])).symm.trans hr
  | str => intro s x c c' h hr; exact (h 0 (by simp [Ty.sz])).symm.trans hr
  | unit => intro s x c c' h hr; exact hr
  | ro t ih =>
    intro s xs c c' h hr
    obtain ⟨a, cap, h0, h1, h2⟩ := hr
    exact ⟨a, cap, (h 0 (by simp [Ty.sz])).symm.trans h0, h1, h2⟩
  | pair a b iha ihb =>
    intro s x c c' h hr
    exact ⟨iha _ _ _ _ (fun j hj => h j (by simp [Ty.sz]; omega)) hr.1, ihb _ _ _ _ (fun j hj => h _ (by simp [Ty.sz]; omega)) hr.2⟩
  | arr n t ih =>
    intro s xs c c' h hr
    refine ⟨hr.1, fun i hi => ih _ _ _ _ (fun j hj => h _ ?_) (hr.2 i hi)⟩
    have hn := hr.1
    simp only [Ty.sz]
    exact mul_lt_of (by omega) hj
  | own t ih =>
    intro s xs c c' h hr
    exact fun hd => ⟨(h 0 (by simp [Ty.sz])).symm.trans (hr hd).1, (hr hd).2⟩
  | ptr t ih =>
    intro s xs c c' h hr
    exact fun hd => ⟨(h 0 (by simp [Ty.sz])).symm.trans (hr hd).1, (hr hd).2⟩
  | map k v ihk ihv =>
    intro s xs c c' h hr
    exact fun hd => ⟨(h 0 (by simp [Ty.sz])).symm.trans (hr hd).1, (hr hd).2⟩

theorem Ty.rd_plain {ok : Nat → Prop} {w : World} : ∀ (t : Ty) (s s' : Sub) (x : t.den) (c : Nat → Option Value), t.plain = true → t.rd ok w s x c → t.rd ok w s' x c := by
  intro t
  induction t with
  | int k => intro s s' x c _ hr; exact hr
  | bool => intro s s' x c _ hr; exact hr
  | str => intro s s' x c _ hr; exact hr
  | unit => intro s s' x c _ hr; exact hr
  | ro t ih => intro s s' x c _ hr; exact hr
  | pair a b iha ihb =>
    intro s s' x c h hr
    simp only [Ty.plain, Bool.and_eq_true] at h
    exact ⟨iha _ _ _ _ h.1 hr.1, ihb _ _ _ _ h.2 hr.2⟩
  | arr n t ih =>
    intro s s' x c h hr
    exact ⟨hr.1, fun i hi => ih _ _ _ _ h (hr.2 i hi)⟩
  | own t ih => intro s s' x c h; cases h
  | ptr t ih => intro s s' x c h; cases h
  | map k v ihk ihv => intro s s' x c h; cases h

def pty : Ty → List Step → Option Ty
  | t, [] => some t
  | .pair a _, .fst :: p => pty a p
  | .pair _ b, .snd :: p => pty b p
  | .arr _ t, .idx _ :: p => pty t p
  | _, _ => none

def poff : Ty → List Step → Nat
  | _, [] => 0
  | .pair a _, .fst :: p => poff a p
  | .pair a b, .snd :: p => a.sz + poff b p
  | .arr _ t, .idx i :: p => i.toNat * t.sz + poff t p
  | _, _ => 0

def pok : Ty → List Step → Prop
  | _, [] => True
  | .pair a _, .fst :: p => pok a p
  | .pair _ b, .snd :: p => pok b p
  | .arr n t, .idx i :: p => 0 ≤ i ∧ i < (n : Int) ∧ pok t p
  | _, _ => False

def pget : (t : Ty) → t.den → List Step → (u : Ty) → Option u.den
  | t, x, [], u => castTy t u x
  | .pair a _, x, .fst :: p, u => pget a x.1 p u
  | .pair _ b, x, .snd :: p, u => pget b x.2 p u
  | .arr _ t, x, .idx i :: p, u => pget t (List.getD x i.toNat t.dflt) p u
  | _, _, _, _ => none

def pset : (t : Ty) → t.den → List Step → (u : Ty) → u.den → Option t.den
  | t, _, [], u, y => castTy u t y
  | .pair a b, x, .fst :: p, u, y => (pset a x.1 p u y).map (fun z => ((z, x.2) : (Ty.pair a b).den))
  | .pair a b, x, .snd :: p, u, y => (pset b x.2 p u y).map (fun z => ((x.1, z) : (Ty.pair a b).den))
  | .arr n t, x, .idx i :: p, u, y => (pset t (List.getD x i.toNat t.dflt) p u y).map (fun z => (List.set x i.toNat z : (Ty.arr n t).den))
  | _, _, _, _, _ => none

theorem pget_pty : ∀ (p : List Step) (t : Ty) (x : t.den) (u : Ty) (y : u.den), pget t x p u = some y → pty t p = some u := by
  intro p
  induction p with
  | nil => intro t x u y h; obtain ⟨e, _⟩ := castTy_some (by simpa [pget] using h); subst e; simp [pty]
  | cons s p ih =>
    intro t x u y h
    cases t <;> cases s <;> simp only [pget, pty] at h ⊢ <;> first | exact ih _ _ _ _ h | cases h

theorem pset_pty : ∀ (p : List Step) (t : Ty) (x : t.den) (u : Ty) (y : u.den) (x' : t.den), pset t x p u y = some x' → pty t p = some u := by
  intro p
  induction p with
  | nil => intro t x u y x' h; obtain ⟨e, _⟩ := castTy_some (by simpa [pset] using h); subst e; simp [pty]
  | cons s p ih =>
    intro t x u y x' h
    cases t <;> cases s <;> simp only [pset, pty] at h ⊢ <;> first | (cases h; done) | (rw [Option.map_eq_some_iff] at h; obtain ⟨z, hz, _⟩ := h; exact ih _ _ _ _ _ hz)

theorem poff_le : ∀ (p : List Step) (t u : Ty), pok t p → pty t p = some u → poff t p + u.sz ≤ t.sz := by
  intro p
  induction p with
  | nil => intro t u _ h; simp only [pty, Option.some.injEq] at h; subst h; simp [poff]
  | cons s p ih =>
    intro t u hok h
    cases t <;> cases s <;> simp only [pty, pok, poff, Ty.sz] at hok h ⊢ <;> try (cases h; done)
    · have := ih _ _ hok h; omega
    · have := ih _ _ hok h; omega
    · rename_i n t i
      obtain ⟨h0, h1, h2⟩ := hok
      have := ih _ _ h2 h
      have h3 : (i.toNat + 1) * t.sz ≤ n * t.sz := Nat.mul_le_mul_right _ (by omega)
      rw [Nat.add_mul] at h3
      omega

theorem rd_pget {ok : Nat → Prop} {w : World} : ∀ (p : List Step) (t : Ty) (s : Sub) (x : t.den) (c : Nat → Option Value) (u : Ty) (y : u.den),
    t.rd ok w s x c → pok t p → pget t x p u = some y → u.rd ok w (s.at p) y (fun j => c (poff t p + j)) := by
  intro p
  induction p with
  | nil =>
    intro t s x c u y hr _ h
    obtain ⟨e, he⟩ := castTy_some (by simpa [pget] using h)
    subst e; subst he
    simpa [poff, Sub.at_nil] using hr
  | cons a p ih =>
    intro t s x c u y hr hok h
    cases t <;> cases a <;> simp only [pget, pok, poff] at hok h ⊢ <;> try (cases h; done)
    · have := ih _ _ _ _ _ _ hr.1 hok h
      rwa [Sub.at_at] at this
    · have := ih _ _ _ _ _ _ hr.2 hok h
      rw [Sub.at_at] at this
      simpa only [Nat.add_assoc, List.cons_append, List.nil_append] using this
    · rename_i n t i
      obtain ⟨h0, h1, h2⟩ := hok
      have hn := hr.1
      have hi : i.toNat < List.length x := by omega
      have e : List.getD x i.toNat t.dflt = x[i.toNat] := by simp [List.getD, List.getElem?_eq_getElem hi]
      rw [e] at h
      have := ih _ _ _ _ _ _ (hr.2 i.toNat hi) h2 h
      rw [Sub.at_at, show ((i.toNat : Nat) : Int) = i by omega] at this
      simpa only [Nat.add_assoc, List.cons_append, List.nil_append] using this

theorem rd_pset' {ok : Nat → Prop} {w : World} : ∀ (p : List Step) (t : Ty) (s s' : Sub) (x : t.den) (c c2 : Nat → Option Value) (u : Ty) (y : u.den) (x' : t.den) (c' : Nat → Option Value),
    t.rd ok w s x c → pok t p → pset t x p u y = some x' → u.rd ok w s' y c' →
    (∀ j, j < poff t p ∨ poff t p + u.sz ≤ j → c2 j = c j) → (∀ j, j < u.sz → c2 (poff t p + j) = c' j) → t.rd ok w (s.put p s') x' c2 := by
  intro p
  induction p with
  | nil =>
    intro t s s' x c c2 u y x' c' hr _ h hy _ h2
    obtain ⟨e, he⟩ := castTy_some (by simpa [pset] using h)
    subst e; subst he
    rw [Sub.put_nil]
    exact Ty.rd_congr _ _ _ _ _ (fun j hj => by have := h2 j hj; simp [poff] at this; exact this.symm) hy
  | cons a p ih =>
    intro t s s' x c c2 u y x' c' hr hok h hy h1 h2
    have hpt := pset_pty _ _ _ _ _ _ h
    cases t <;> cases a <;> simp only [pset, pok, poff, pty] at hok h h1 h2 hpt <;> try (cases h; done)
    · rename_i a b
      rw [Option.map_eq_some_iff] at h
      obtain ⟨z, hz, rfl⟩ := h
      have hb := poff_le p a u hok hpt
      refine ⟨?_, ?_⟩
      · rw [Sub.put_cons_at]; exact ih _ _ _ _ _ _ _ _ _ _ hr.1 hok hz hy h1 h2
      · rw [Sub.put_cons_ne _ _ (by decide)]; exact Ty.rd_congr _ _ _ _ _ (fun j _ => (h1 _ (by omega)).symm) hr.2
    · rename_i a b
      rw [Option.map_eq_some_iff] at h
      obtain ⟨z, hz, rfl⟩ := h
      refine ⟨?_, ?_⟩
      · rw [Sub.put_cons_ne _ _ (by decide)]; exact Ty.rd_congr _ _ _ _ _ (fun j hj => (h1 _ (by omega)).symm) hr.1
      · rw [Sub.put_cons_at]
        refine ih _ _ _ _ _ _ _ _ _ _ hr.2 hok hz hy (fun j hj => h1 _ (by omega)) (fun j hj => ?_)
        have := h2 j hj
        simpa only [Nat.add_assoc] using this
    · rename_i n t i
      obtain ⟨h0, h3, h4⟩ := hok
      rw [Option.map_eq_some_iff] at h
      obtain ⟨z, hz, rfl⟩ := h
      have hn := hr.1
      have hi : i.toNat < List.length x := by omega
      have hii : ((i.toNat : Nat) : Int) = i := by omega
      have e : List.getD x i.toNat t.dflt = x[i.toNat] := by simp [List.getD, List.getElem?_eq_getElem hi]
      have hb := poff_le p t u h4 hpt
      rw [e] at hz
      refine ⟨by simpa using hn, fun k hk => ?_⟩
      have hk' : k < List.length x := by simpa using hk
      by_cases hki : k = i.toNat
      · subst hki
        have : (List.set x i.toNat z)[i.toNat]'hk = z := by simp
        rw [this, hii, Sub.put_cons_at]
        have hx := hr.2 i.toNat hi
        rw [hii] at hx
        refine ih _ _ _ _ _ _ _ _ _ _ hx h4 hz hy (fun j hj => h1 _ (by omega)) (fun j hj => ?_)
        have := h2 j hj
        simpa only [Nat.add_assoc] using this
      · have : (List.set x i.toNat z)[k]'hk = x[k] := by
          rw [List.getElem_set_ne (by omega)]
        rw [this, Sub.put_cons_ne _ _ (by intro e; cases e; simp at hki)]
        refine Ty.rd_congr _ _ _ _ _ (fun j hj => (h1 _ ?_).symm) (hr.2 k hk')
        rcases Nat.lt_or_gt_of_ne hki with hlt | hgt
        · left
          have h5 : (k + 1) * t.sz ≤ i.toNat * t.sz := Nat.mul_le_mul_right _ hlt
          rw [Nat.add_mul] at h5
          omega
        · right
          have h5 : (i.toNat + 1) * t.sz ≤ k * t.sz := Nat.mul_le_mul_right _ hgt
          rw [Nat.add_mul] at h5
          omega
/-- What has nothing of its own is set: the places stay. -/
theorem rd_pset {ok : Nat → Prop} {w : World} (p : List Step) (t : Ty) (s : Sub) (x : t.den) (c c2 : Nat → Option Value) (u : Ty) (y : u.den) (x' : t.den) (c' : Nat → Option Value) (hu : u.plain = true)
    (hr : t.rd ok w s x c) (hok : pok t p) (h : pset t x p u y = some x') (hy : u.rd ok w Sub.none y c')
    (h1 : ∀ j, j < poff t p ∨ poff t p + u.sz ≤ j → c2 j = c j) (h2 : ∀ j, j < u.sz → c2 (poff t p + j) = c' j) : t.rd ok w s x' c2 := by
  have := rd_pset' p t s (s.at p) x c c2 u y x' c' hr hok h (Ty.rd_plain _ _ _ _ _ hu hy) h1 h2
  rwa [Sub.put_self] at this


/-! ### what is owned, as what is only read: sizes, places -/
def Ty.roT : Ty → Ty
  | .own t => .ro t.roT
  | .pair a b => .pair a.roT b.roT
  | .arr n t => .arr n t.roT
  | t => t
theorem roT_sz : ∀ (t : Ty), t.roT.sz = t.sz ∧ t.roT.agg = t.agg
  | .int _ => ⟨rfl, rfl⟩
  | .bool => ⟨rfl, rfl⟩
  | .str => ⟨rfl, rfl⟩
  | .unit => ⟨rfl, rfl⟩
  | .ro _ => ⟨rfl, rfl⟩
  | .ptr _ => ⟨rfl, rfl⟩
  | .map _ _ => ⟨rfl, rfl⟩
  | .own t => ⟨rfl, rfl⟩
  | .arr n t => ⟨by show n * t.roT.sz = n * t.sz; rw [(roT_sz t).1], rfl⟩
  | .pair a b => ⟨by show a.roT.sz + b.roT.sz = a.sz + b.sz; rw [(roT_sz a).1, (roT_sz b).1], rfl⟩
theorem roT_place : ∀ {t u : Ty} (p : List Step), t.roT = u.roT → pok t p → pok u p ∧ poff t p = poff u p := by
  intro t
  induction t with
  | pair a b iha ihb =>
    intro u p h hp
    cases u <;> first | (cases h; done) | skip
    rename_i a' b'
    simp only [Ty.roT, Ty.pair.injEq] at h
    cases p with
    | nil => exact ⟨trivial, rfl⟩
    | cons c p =>
      cases c <;> first | (simp [pok] at hp; done) | skip
      · obtain ⟨h1, h2⟩ := iha p h.1 hp
        exact ⟨h1, h2⟩
      · obtain ⟨h1, h2⟩ := ihb p h.2 hp
        refine ⟨h1, ?_⟩
        show a.sz + poff b p = a'.sz + poff b' p
        rw [h2, ← (roT_sz a).1, ← (roT_sz a').1, h.1]
  | arr n t ih =>
    intro u p h hp
    cases u <;> first | (cases h; done) | skip
    rename_i n' t'
    simp only [Ty.roT, Ty.arr.injEq] at h
    obtain ⟨rfl, h⟩ := h
    cases p with
    | nil => exact ⟨trivial, rfl⟩
    | cons c p =>
      cases c <;> first | (simp [pok] at hp; done) | skip
      rename_i i
      obtain ⟨h1, h2, h3⟩ := hp
      obtain ⟨h4, h5⟩ := ih p h h3
      refine ⟨⟨h1, h2, h4⟩, ?_⟩
      show i.toNat * t.sz + poff t p = i.toNat * t'.sz + poff t' p
      rw [h5, ← (roT_sz t).1, ← (roT_sz t').1, h]
  | _ =>
    intro u p h hp
    cases p with
    | nil => exact ⟨by cases u <;> trivial, by cases u <;> rfl⟩
    | cons c p => simp [pok] at hp
end Go.Lift
/- The abstract state, and how it stands to the machine's. -/
namespace Go.Lift
open Go

/-! ### places -/
def Sub.blk (s : Sub) : Option Nat := (s []).blk
def Sub.off (s : Sub) : Nat := (s []).off
def Sub.cap (s : Sub) : Nat := (s []).cap
def Sub.addr (s : Sub) : Option Addr := s.blk.map fun b => ⟨b, s.off, Option.none⟩
/-- One block, nothing behind it. -/
def mkSub (blk : Option Nat) (off cap : Nat) : Sub := fun p => match p with
  | [] => ⟨blk, off, cap, true⟩
  | _ => ⟨none, 0, 0, true⟩
@[simp] theorem mkSub_blk (b : Option Nat) (o c : Nat) : (mkSub b o c).blk = b := rfl
@[simp] theorem mkSub_off (b : Option Nat) (o c : Nat) : (mkSub b o c).off = o := rfl
@[simp] theorem mkSub_cap (b : Option Nat) (o c : Nat) : (mkSub b o c).cap = c := rfl
@[simp] theorem mkSub_root (b : Option Nat) (o c : Nat) : mkSub b o c [] = ⟨b, o, c, true⟩ := rfl
structure Sub.same (s s' : Sub) : Prop where
  blk : s.blk = s'.blk
  off : s.off = s'.off
  cap : s.cap = s'.cap
theorem Sub.same.rfl' (s : Sub) : s.same s := ⟨rfl, rfl, rfl⟩
theorem Sub.same.symm {s s' : Sub} (h : s.same s') : s'.same s := ⟨h.blk.symm, h.off.symm, h.cap.symm⟩
theorem Sub.same.trans {s s' s'' : Sub} (h : s.same s') (k : s'.same s'') : s.same s'' := ⟨h.blk.trans k.blk, h.off.trans k.off, h.cap.trans k.cap⟩
theorem Sub.same.addr {s s' : Sub} (h : s.same s') : s.addr = s'.addr := by simp [Sub.addr, h.blk, h.off]
def Sub.has (s : Sub) (b : Nat) : Prop := ∃ p, (s p).blk = some b
def Sub.inj (s : Sub) : Prop := ∀ p q b, (s p).blk = some b → (s q).blk = some b → p = q
theorem Sub.has_blk {s : Sub} {b : Nat} (h : s.blk = some b) : s.has b := ⟨[], h⟩
theorem mkSub_get {bl : Option Nat} {o c : Nat} {p : List Step} {b : Nat} (h : (mkSub bl o c p).blk = some b) : p = [] ∧ bl = some b := by
  cases p with
  | nil => exact ⟨rfl, h⟩
  | cons a p => cases h
theorem mkSub_has {bl : Option Nat} {o c b : Nat} : (mkSub bl o c).has b ↔ bl = some b :=
  ⟨fun ⟨_, hp⟩ => (mkSub_get hp).2, fun h => ⟨[], h⟩⟩
theorem mkSub_inj (bl : Option Nat) (o c : Nat) : (mkSub bl o c).inj := fun _ _ _ h k => (mkSub_get h).1.trans (mkSub_get k).1.symm
theorem mkSub_hd (bl : Option Nat) (o c : Nat) (p : List Step) : (mkSub bl o c p).hd = true := by cases p <;> rfl
theorem mkSub_sub (bl : Option Nat) (o c : Nat) (a : Step) (p : List Step) : (mkSub bl o c).at (a :: p) = Sub.none := rfl

/-! ### values, regions -/
/-- What is open: a place, the region that lies there. -/
abbrev Holes := List (List Step × Nat)
inductive SV where
  | undef
  | val (t : Ty) (x : t.den)
  | sl (r : Nat)
  | addr (r : Nat) (p : List Step)
  | ra (t : Ty) (x : t.den)         -- the address of what is not written any more
  | nilsl
  | nilp
  | valn (t : Ty) (xs : List t.den)   -- a slice that is read only, nil if it is empty
  | nilq (e neg : Bool)               -- whether a slice (empty: e) is nil (neg: is not)
  | nst (t : Ty) (x : t.den) (H : Holes)   -- a value in which regions lie
  | mp (r : Nat)                      -- a map
  | slv (r : Nat) (lo hi : Int)       -- a part of a region's slice
  | fn0 (f : FuncId)                  -- a function that holds nothing
  | fna (f : FuncId) (r : Nat) (p : List Step)   -- a function that holds an address
  | fnr (f : FuncId) (t : Ty) (x : t.den)        -- a function that holds the address of what is not written any more

inductive AV where
  | s (v : SV)
  | tup (vs : List SV)
  | fn (f : FuncId) (caps : List SV)
  | gd (key : List (Nat × Bool)) (b want : Bool) (v : SV)

inductive Reg where
  | row (t : Ty) (xs : List t.den) (H : Holes)
  | box (t : Ty) (x : t.den) (H : Holes)
  | obox (t : Ty) (x : Option t.den) (H : Holes)
  | mp (k v : Ty) (es : Option (List (k.den × v.den))) (H : Holes)
def Reg.holes : Reg → Holes
  | .row _ _ H => H
  | .box _ _ H => H
  | .obox _ _ H => H
  | .mp _ _ _ H => H
def Reg.isCells : Reg → Bool
  | .mp _ _ _ _ => false
  | _ => true
/-- Where in the region's places its own value begins. -/
def Reg.base : Reg → List Step
  | .row _ _ _ => []
  | .box _ _ _ => [.deref]
  | .obox _ _ _ => [.deref]
  | .mp _ _ _ _ => []

abbrev Regs := List (Nat × Reg)
def look : Regs → Nat → Option Reg
  | [], _ => none
  | (k, g) :: rs, r => if k = r then some g else look rs r
def drop : Regs → Nat → Regs
  | [], _ => []
  | (k, g) :: rs, r => if k = r then drop rs r else (k, g) :: drop rs r
def upd (rs : Regs) (r : Nat) : Option Reg → Regs
  | none => drop rs r
  | some g => (r, g) :: drop rs r
theorem look_drop (rs : Regs) (r s : Nat) : look (drop rs r) s = if r = s then none else look rs s := by
  induction rs with
  | nil => simp [look, drop]
  | cons kg rs ih =>
    obtain ⟨k, g⟩ := kg
    simp only [drop]
    split
    · rename_i h; subst h; rw [ih]; simp only [look]; split <;> rfl
    · rename_i h; simp only [look]; rw [ih]; split
      · rename_i h2; subst h2; rw [if_neg (fun e => h e.symm)]
      · rfl
theorem look_upd (rs : Regs) (r s : Nat) (g : Option Reg) : look (upd rs r g) s = if r = s then g else look rs s := by
  cases g with
  | none => simp only [upd, look_drop]
  | some g => simp only [upd, look, look_drop]; split <;> rfl

/-- Where the regions lie; what may be read at all. -/
structure Phi where
  loc : Nat → Sub
  base : Nat → Prop
instance : CoeFun Phi (fun _ => Nat → Sub) := ⟨Phi.loc⟩

/-- What is open in a value: the places, as no more is said of them. -/
def hsub (H : Holes) : Sub := fun q => ⟨none, 0, 0, !(H.any fun x => decide (x.1 = q))⟩
theorem hsub_has {H : Holes} {b : Nat} : ¬ (hsub H).has b := fun ⟨_, h⟩ => by cases h
theorem hsub_hd {H : Holes} {q : List Step} (h : (hsub H q).hd = false) : ∃ m, (q, m) ∈ H := by
  simp only [hsub, Bool.not_eq_false', List.any_eq_true, decide_eq_true_eq] at h
  obtain ⟨⟨p, m⟩, hm, rfl⟩ := h
  exact ⟨m, hm⟩
theorem hsub_nil : hsub [] = Sub.none := by funext q; simp [hsub, Sub.none]

def VRel (ok : Nat → Prop) (w : World) (t : Ty) (x : t.den) (v : Value) : Prop :=
  t.rd ok w Sub.none x (fun j => v.cells[j]?) ∧ v.cells.size = t.sz ∧ Value.isAgg v = t.agg

/-- A slice of its own: what its elements are; the parts read in w, the block itself in w'. -/
def ownC (ok : Nat → Prop) (w w' : World) (t : Ty) (s : Sub) (xs : List t.den) : Prop :=
  List.length xs ≤ (s []).cap ∧
      match (s []).blk with
      | none => (s []).cap = 0
      | some b => ∃ cs ty fz, w'.heap[b]? = some (.cells cs ty fz) ∧ Thawed fz cs.size ∧ (s []).off + (s []).cap * t.sz ≤ cs.size ∧
          ∀ i (h : i < List.length xs), t.rd ok w (s.at [.idx i]) (xs[i]'h) (fun j => cs[(s []).off + i * t.sz + j]?)
def boxC (ok : Nat → Prop) (w w' : World) (t : Ty) (s : Sub) (x : t.den) : Prop :=
  (s []).off = 0 ∧ ∃ b cs ty fz, (s []).blk = some b ∧ w'.heap[b]? = some (.cells cs ty fz) ∧ Thawed fz cs.size ∧ cs.size = t.sz ∧ t.rd ok w (s.at [.deref]) x (fun j => cs[j]?)
def mapC (ok : Nat → Prop) (w w' : World) (k v : Ty) (s : Sub) (es : List (k.den × v.den)) : Prop :=
  (s []).off = 0 ∧ ∃ b ms clock, (s []).blk = some b ∧ w'.heap[b]? = some (.map ms clock) ∧ ms.size = List.length es ∧ Stamped ms clock ∧ Differ es ∧
    ∀ i (h : i < List.length es) (h' : i < ms.size), k.rd ok w Sub.none (es[i]'h).1 (fun j => ms[i].key.cells[j]?) ∧ ms[i].key.cells.size = k.sz ∧ Value.isAgg ms[i].key = k.agg ∧
      v.rd ok w (s.ent k (es[i]'h).1) (es[i]'h).2 (fun j => ms[i].val.cells[j]?) ∧ ms[i].val.cells.size = v.sz ∧ Value.isAgg ms[i].val = v.agg
/-- A region at its place: the parts read in w, the block itself in w'. -/
def Reg.at2 (ok : Nat → Prop) (w w' : World) (l : Sub) : Reg → Prop
  | .row t xs _ => ownC ok w w' t l xs
  | .box t x _ => boxC ok w w' t l x
  | .obox t o _ => match o with
      | none => (l []).blk = none
      | some x => boxC ok w w' t l x
  | .mp k v o _ => match o with
      | none => (l []).blk = none
      | some es => mapC ok w w' k v l es
abbrev Reg.at (ok : Nat → Prop) (w : World) (l : Sub) (g : Reg) : Prop := g.at2 ok w w l
theorem rd_own_iff {ok : Nat → Prop} {w : World} {t : Ty} {s : Sub} {xs : List t.den} {c : Nat → Option Value} :
    (Ty.own t).rd ok w s xs c ↔ ((s []).hd = true → c 0 = some (.slice (s []).addr (List.length xs) (s []).cap) ∧ ownC ok w w t s xs) := Iff.rfl
theorem rd_ptr_iff {ok : Nat → Prop} {w : World} {t : Ty} {s : Sub} {o : Option t.den} {c : Nat → Option Value} :
    (Ty.ptr t).rd ok w s o c ↔ ((s []).hd = true → c 0 = some (.pointer ((s []).blk.map fun b => ⟨b, 0, none⟩)) ∧ (Reg.obox t o []).at ok w s) := by
  cases o <;> exact Iff.rfl
theorem rd_map_iff {ok : Nat → Prop} {w : World} {k v : Ty} {s : Sub} {o : Option (List (k.den × v.den))} {c : Nat → Option Value} :
    (Ty.map k v).rd ok w s o c ↔ ((s []).hd = true → c 0 = some (.map (s []).blk) ∧ (Reg.mp k v o []).at ok w s) := by
  cases o <;> exact Iff.rfl

/-- What an address says. -/
def addrRel (φ : Phi) (r : Nat) (p : List Step) (v : Value) : Reg → Prop
  | .row t xs _ => ∃ i p' b, p = .idx i :: p' ∧ 0 ≤ i ∧ i < (xs.length : Int) ∧ pok t p' ∧ (φ r).blk = some b ∧
      v = .pointer (some ⟨b, (φ r).off + i.toNat * t.sz + poff t p', none⟩)
  | .box t _ _ => ∃ b, (φ r).blk = some b ∧ pok t p ∧ v = .pointer (some ⟨b, poff t p, none⟩)
  | .obox t o _ => (p = [] ∧ (φ r).blk.isSome = o.isSome ∧ v = .pointer ((φ r).blk.map fun b => ⟨b, 0, none⟩)) ∨
      (∃ b, o.isSome = true ∧ (φ r).blk = some b ∧ pok t p ∧ v = .pointer (some ⟨b, poff t p, none⟩))
  | .mp _ _ _ _ => False

/-- A region as what points to it tells it. -/
def hdr (l : Sub) : Reg → Value
  | .row _ xs _ => .slice l.addr xs.length l.cap
  | .box _ _ _ => .pointer (l.blk.map fun b => ⟨b, 0, none⟩)
  | .obox _ _ _ => .pointer (l.blk.map fun b => ⟨b, 0, none⟩)
  | .mp _ _ _ _ => .map l.blk
def intOf : (k : Ty) → k.den → Option Value
  | .int kk, x => some (.int kk x)
  | _, _ => none
/-- A slice, a pointer, a map of its own. -/
def Ty.link : Ty → Bool
  | .own _ => true
  | .ptr _ => true
  | .map _ _ => true
  | _ => false
/-- The type of a region's place. -/
def ptyR : Reg → List Step → Option Ty
  | .row t _ _, .idx _ :: p => pty t p
  | .box t _ _, p => pty t p
  | .obox t _ _, p => pty t p
  | .mp _ v _ _, [.key _] => some v
  | _, _ => none
/-- Is a place of a region there? -/
def pokR : Reg → List Step → Prop
  | .row t xs _, .idx i :: p => 0 ≤ i ∧ i < (xs.length : Int) ∧ pok t p
  | .box t _ _, p => pok t p
  | .obox t o _, p => o.isSome = true ∧ pok t p
  | .mp (.int _) _ (some es) _, [.key x] => ∃ y, (x, y) ∈ es
  | _, _ => False
def cellAt (w : World) (b : Option Nat) (o : Nat) : Option Value :=
  match b with
  | some b => match w.heap[b]? with
    | some (.cells cs _ _) => cs[o]?
    | _ => none
  | none => none
def isIntV (kk : IntKind) (x : Int) : Value → Bool
  | .int k y => decide (k = kk) && decide (y = x)
  | _ => false
def entAt (w : World) (b : Option Nat) (kk : IntKind) (x : Int) : Option Value :=
  match b with
  | some b => match w.heap[b]? with
    | some (.map ms _) => (ms.toList.find? fun e => isIntV kk x e.key).map MapEntry.val
    | _ => none
  | none => none
/-- The cell of a place. -/
def cellR (w : World) (l : Sub) : Reg → List Step → Option Value
  | .row t _ _, .idx i :: p => cellAt w l.blk (l.off + i.toNat * t.sz + poff t p)
  | .box t _ _, p => cellAt w l.blk (poff t p)
  | .obox t _ _, p => cellAt w l.blk (poff t p)
  | .mp (.int kk) _ _ _, [.key x] => entAt w l.blk kk x
  | _, _ => none
theorem cellR_congr {w w' : World} {l : Sub} {g : Reg} {p : List Step} (h : ∀ b, l.blk = some b → w'.heap[b]? = w.heap[b]?) : cellR w' l g p = cellR w l g p := by
  have h1 : ∀ o, cellAt w' l.blk o = cellAt w l.blk o := fun o => by
    unfold cellAt
    split
    · rename_i b hb; rw [h b hb]
    · rfl
  have h2 : ∀ k x, entAt w' l.blk k x = entAt w l.blk k x := fun _ _ => by
    unfold entAt
    split
    · rename_i b hb; rw [h b hb]
    · rfl
  unfold cellR
  split <;> first | exact h1 _ | exact h2 _ _ | rfl

def NRel (rs : Regs) (φ : Phi) (ok : Nat → Prop) (w : World) (t : Ty) (x : t.den) (H : Holes) (v : Value) : Prop :=
  t.rd ok w (hsub H) x (fun j => v.cells[j]?) ∧ v.cells.size = t.sz ∧ Value.isAgg v = t.agg ∧
    (∀ c ∈ v.cells.toList, c.oneCell' = true) ∧ ∀ p m, (p, m) ∈ H → pok t p ∧ ∀ g, look rs m = some g → v.cells[poff t p]? = some (hdr (φ m) g)

def SVRel (rs : Regs) (φ : Phi) (ok : Nat → Prop) (w : World) : SV → Value → Prop
  | .undef, _ => True
  | .val t x, v => VRel ok w t x v
  | .sl r, v => ∀ t xs H, look rs r = some (.row t xs H) → v = .slice (φ r).addr xs.length (φ r).cap
  | .addr r p, v => ∀ g, look rs r = some g → addrRel φ r p v g
  | .nilsl, v => v = .slice none 0 0
  | .fn0 f, v => v = .func (.func f) #[] #[]
  | .fna f r p, v => ∃ pv, v = .func (.func f) #[] #[pv] ∧ ∀ g, look rs r = some g → addrRel φ r p pv g
  | .fnr f t x, v => ∃ b o cs ty fz, v = .func (.func f) #[] #[.pointer (some ⟨b, o, none⟩)] ∧ ok b ∧ w.heap[b]? = some (.cells cs ty fz) ∧ t.rd ok w Sub.none x (fun j => cs[o + j]?)
  | .nilp, v => v = .pointer none
  | .valn t xs, v => VRel ok w (.ro t) xs v ∧ (xs = [] → v = .slice none 0 0)
  | .nilq e neg, v => ∃ c, v = .bool c ∧ ((c != neg) = true → e = true)
  | .ra t x, v => ∃ b o cs ty fz, v = .pointer (some ⟨b, o, none⟩) ∧ ok b ∧ w.heap[b]? = some (.cells cs ty fz) ∧ t.rd ok w Sub.none x (fun j => cs[o + j]?)
  | .nst t x H, v => NRel rs φ ok w t x H v
  | .mp r, v => ∀ k vt o H, look rs r = some (.mp k vt o H) → v = .map (φ r).blk
  | .slv r lo hi, v => ∀ t xs H, look rs r = some (.row t xs H) → 0 ≤ lo ∧ lo ≤ hi ∧ hi ≤ (xs.length : Int) ∧ ∃ o cap, v = .slice ((φ r).blk.map fun b => ⟨b, o, none⟩) (hi - lo).toNat cap ∧ (hi - lo).toNat ≤ cap ∧ lo.toNat + cap ≤ (φ r).cap ∧
      (o = (φ r).off + lo.toNat * t.sz ∨ (cap = 0 ∧ o ≤ (φ r).off + (φ r).cap * t.sz))

/-- Two lists, element by element. -/
inductive All2 {α β : Type} (R : α → β → Prop) : List α → List β → Prop where
  | nil : All2 R [] []
  | cons {a b as bs} (h : R a b) (t : All2 R as bs) : All2 R (a :: as) (b :: bs)

def AVRel (rs : Regs) (φ : Phi) (ok : Nat → Prop) (w : World) : AV → Value → Prop
  | .s x, v => SVRel rs φ ok w x v
  | .tup xs, v => ∃ vs : Array Value, v = .tuple vs ∧ All2 (SVRel rs φ ok w) xs vs.toList
  | .fn f caps, v => ∃ cs : Array Value, v = .func (.func f) #[] cs ∧ All2 (SVRel rs φ ok w) caps cs.toList
  | .gd _ b want x, v => (b = want → SVRel rs φ ok w x v) ∧ (¬ b = want → v = undef)

def SV.mentions (n : Nat) : SV → Prop
  | .sl r => r = n
  | .addr r _ => r = n
  | .nst _ _ H => ∃ p, (p, n) ∈ H
  | .mp r => r = n
  | .slv r _ _ => r = n
  | .fna _ r _ => r = n
  | _ => False
def AV.mentions (n : Nat) : AV → Prop
  | .s v => v.mentions n
  | .tup vs => ∃ v ∈ vs, v.mentions n
  | .fn _ vs => ∃ v ∈ vs, v.mentions n
  | .gd _ _ _ v => v.mentions n

/-- tmps: of this call; gh: what the calls round it hold. -/
structure St where
  tmps : List AV
  regs : Regs
  next : Nat
  gh : List AV

structure Cx where
  P : Program
  B : Nat
  w0 : World
  io : List (Nat × Sub)
  ro : Nat → Prop
  nt : Nat
  gh : List Value
def Cx.own (cx : Cx) (b : Nat) : Prop := ∃ r l, (r, l) ∈ cx.io ∧ l.has b

structure Kept (own : Nat → Prop) (B : Nat) (w w' : World) : Prop where
  os : w'.os = w.os
  tape : w'.tape = w.tape
  output : w'.output = w.output
  size : w.heap.size ≤ w'.heap.size
  block : ∀ k, k < B → ¬ own k → w'.heap[k]? = w.heap[k]?
theorem Kept.refl (own : Nat → Prop) (B : Nat) (w : World) : Kept own B w w := ⟨rfl, rfl, rfl, Nat.le_refl _, fun _ _ _ => rfl⟩
theorem Kept.trans {own own' own'' : Nat → Prop} {B : Nat} {a b c : World} (h : Kept own B a b) (k : Kept own' B b c)
    (h1 : ∀ k, k < B → own k → own'' k) (h2 : ∀ k, k < B → own' k → own'' k) : Kept own'' B a c :=
  ⟨k.os.trans h.os, k.tape.trans h.tape, k.output.trans h.output, Nat.le_trans h.size k.size,
    fun i hi ho => (k.block i hi fun e => ho (h2 i hi e)).trans (h.block i hi fun e => ho (h1 i hi e))⟩

/-- What may be read for good: the blocks that no live region has. -/
def okOf (rs : Regs) (φ : Phi) (b : Nat) : Prop := (∀ r g, look rs r = some g → ¬ (φ r).has b) ∧ φ.base b

/-- The regions as they lie. -/
structure Lay (cx : Cx) (φ : Phi) (rs : Regs) (w : World) : Prop where
  rg : ∀ r g, look rs r = some g → g.at (okOf rs φ) w (φ r)
  inj : ∀ r g, look rs r = some g → (φ r).inj
  sep : ∀ r r' g g' b, look rs r = some g → look rs r' = some g' → (φ r).has b → (φ r').has b → r = r'
  al : ∀ r g b, look rs r = some g → (φ r).has b → b < w.heap.size
  fr : ∀ r g b, look rs r = some g → (φ r).has b → cx.B ≤ b ∨ cx.own b
  io : ∀ r l, (r, l) ∈ cx.io → (look rs r).isSome = true → (φ r).same l
  hl : ∀ r g, look rs r = some g → ∀ p m, (p, m) ∈ g.holes → pokR g p → ∀ gm, look rs m = some gm → cellR w (φ r) g p = some (hdr (φ m) gm)
  told : ∀ r g, look rs r = some g → ∀ q, ((φ r) q).hd = false → ∃ p m, (p, m) ∈ g.holes ∧ q = g.base ++ p ∧ pokR g p
  ht : ∀ r g, look rs r = some g → ∀ p m, (p, m) ∈ g.holes → m ≠ r ∧ (g.isCells = true → pokR g p) ∧ ∃ u, ptyR g p = some u ∧ u.link = true

structure RelF (cx : Cx) (φ : Phi) (st : St) (a : Act) (w : World) : Prop where
  size : a.tmps.size = cx.nt
  len : st.tmps.length = cx.nt
  df : a.defers = []
  tm : ∀ i av, st.tmps[i]? = some av → AVRel st.regs φ (okOf st.regs φ) w av (a.tmps.getD i undef)
  gh : All2 (AVRel st.regs φ (okOf st.regs φ) w) st.gh cx.gh
  lay : Lay cx φ st.regs w
  kp : Kept cx.own cx.B cx.w0 w
  hB : cx.B ≤ w.heap.size
  bs : ∀ b, φ.base b ↔ (cx.B ≤ b ∨ cx.own b ∨ cx.ro b)

def Rel (cx : Cx) (st : St) (a : Act) (w : World) : Prop := ∃ φ, RelF cx φ st a w

def Fresh (st : St) (n : Nat) : Prop := look st.regs n = none ∧ (∀ av, av ∈ st.tmps → ¬ av.mentions n) ∧ (∀ av, av ∈ st.gh → ¬ av.mentions n) ∧
  ∀ r g, look st.regs r = some g → ∀ p, (p, n) ∉ g.holes

/-! ### The first lemmas -/

theorem VRel.mono {ok ok' : Nat → Prop} {w w' : World} (h : ∀ b o, ok b → w.heap[b]? = some o → ok' b ∧ w'.heap[b]? = some o)
    {t : Ty} {x : t.den} {v : Value} (hv : VRel ok w t x v) : VRel ok' w' t x v := ⟨Ty.rd_mono h _ _ _ hv.1, hv.2⟩

def SameKind (g g' : Reg) : Prop :=
  match g, g' with
  | .row t xs _, .row t' xs' _ => t = t' ∧ xs.length = xs'.length
  | .box t _ _, .box t' _ _ => t.roT = t'.roT
  | .obox t (some _) _, .box t' _ _ => t = t'
  | .obox t o _, .obox t' o' _ => t = t' ∧ o.isSome = o'.isSome
  | .mp k v _ _, .mp k' v' _ _ => k = k' ∧ v = v'
  | _, _ => False
theorem SameKind.refl (g : Reg) : SameKind g g := by
  cases g with
  | row t xs => exact ⟨rfl, rfl⟩
  | box t x => exact rfl
  | obox t o => cases o <;> exact ⟨rfl, rfl⟩
  | mp k v es => exact ⟨rfl, rfl⟩
theorem SameKind.hdr {g g' : Reg} {l l' : Sub} (h : SameKind g g') (hl : l.same l') : hdr l g = hdr l' g' := by
  cases g with
  | row t xs => cases g' <;> first | exact h.elim | (obtain ⟨_, h⟩ := h; simp [Lift.hdr, hl.addr, hl.cap, h])
  | box t x => cases g' <;> first | exact h.elim | (simp [Lift.hdr, hl.blk])
  | obox t o => cases o <;> cases g' <;> first | exact h.elim | (simp [Lift.hdr, hl.blk])
  | mp k v es => cases g' <;> first | exact h.elim | (simp [Lift.hdr, hl.blk])

/-- An address stays where its region stays what it is. -/
theorem addr_mono {rs rs' : Regs} {φ φ' : Phi} {r : Nat} {p : List Step} {v : Value}
    (hl : ∀ g', look rs' r = some g' → (φ r).same (φ' r) ∧ ∃ g, look rs r = some g ∧ SameKind g g')
    (hv : ∀ g, look rs r = some g → addrRel φ r p v g) : ∀ g, look rs' r = some g → addrRel φ' r p v g := by
  intro g' hg
  obtain ⟨hφ, g, h1, h2⟩ := hl _ hg
  have h3 := hv _ h1
  cases g with
  | mp _ _ _ _ => exact h3.elim
  | row t0 xs0 =>
    cases g' with
    | row t' xs' =>
      obtain ⟨rfl, h4⟩ := h2
      obtain ⟨i, p', b, e1, e2, e3, e4, e5, e6⟩ := h3
      exact ⟨i, p', b, e1, e2, by omega, e4, hφ.blk ▸ e5, by rw [e6, hφ.off]⟩
    | box _ _ => exact h2.elim
    | obox _ _ => exact h2.elim
    | mp _ _ _ _ => exact h2.elim
  | box t0 x0 =>
    cases g' with
    | row _ _ => exact h2.elim
    | obox _ _ => exact h2.elim
    | mp _ _ _ _ => exact h2.elim
    | box t' x' =>
      have h4 : t0.roT = t'.roT := h2
      obtain ⟨b, e1, e2, e3⟩ := h3
      obtain ⟨k1, k2⟩ := roT_place p h4 e2
      exact ⟨b, hφ.blk ▸ e1, k1, by rw [← k2]; exact e3⟩
  | obox t0 o0 =>
    cases g' with
    | row _ _ => cases o0 <;> exact h2.elim
    | mp _ _ _ _ => cases o0 <;> exact h2.elim
    | obox t' o' =>
      have h4 : o0.isSome = o'.isSome := by cases o0 <;> exact h2.2
      have h5 : t0 = t' := by cases o0 <;> exact h2.1
      subst h5
      rcases h3 with ⟨e1, e2, e3⟩ | ⟨b, e0, e1, e2, e3⟩
      · exact .inl ⟨e1, by rw [← hφ.blk, e2, h4], by rw [e3, hφ.blk]⟩
      · exact .inr ⟨b, h4 ▸ e0, hφ.blk ▸ e1, e2, e3⟩
    | box t' x' =>
      cases o0 with
      | none => exact h2.elim
      | some x0 =>
        have h4 : t0 = t' := h2
        subst h4
        rcases h3 with ⟨rfl, e2, e3⟩ | ⟨b, e0, e1, e2, e3⟩
        · cases hb : (φ r).blk with
          | none => rw [hb] at e2; simp at e2
          | some b => exact ⟨b, by rw [← hφ.blk, hb], by simp [pok], by rw [e3, hb]; simp [poff]⟩
        · exact ⟨b, hφ.blk ▸ e1, e2, e3⟩
/-- A simple value stays what it is where its region stays what it is (in kind and length). -/
theorem SVRel.mono {rs rs' : Regs} {φ φ' : Phi} {ok ok' : Nat → Prop} {w w' : World} {x : SV} {v : Value}
    (h : ∀ b o, ok b → w.heap[b]? = some o → ok' b ∧ w'.heap[b]? = some o)
    (hl : ∀ r, x.mentions r → ∀ g', look rs' r = some g' → (φ r).same (φ' r) ∧ ∃ g, look rs r = some g ∧
      SameKind g g')
    (hv : SVRel rs φ ok w x v) : SVRel rs' φ' ok' w' x v := by
  cases x with
  | undef => trivial
  | val t x => exact VRel.mono h hv
  | nilsl => exact hv
  | fn0 f => exact hv
  | nilp => exact hv
  | valn t x => exact ⟨VRel.mono h hv.1, hv.2⟩
  | nilq e neg => exact hv
  | ra t x =>
    obtain ⟨b, o, cs, ty, fz, e1, e2, e3, e4⟩ := hv
    exact ⟨b, o, cs, ty, fz, e1, (h _ _ e2 e3).1, (h _ _ e2 e3).2, Ty.rd_mono h _ _ _ e4⟩
  | nst t x H =>
    obtain ⟨e1, e2, e3, e0, e4⟩ := hv
    refine ⟨Ty.rd_mono' h _ _ _ _ (fun p b hb => by cases hb) e1, e2, e3, e0, fun p m hm => ⟨(e4 p m hm).1, fun g' hg' => ?_⟩⟩
    obtain ⟨hs, g, hg, hk⟩ := hl m ⟨p, hm⟩ g' hg'
    rw [(e4 p m hm).2 g hg, hk.hdr hs]
  | mp r =>
    intro k vt o H hg
    obtain ⟨hφ, g, h1, h2⟩ := hl r rfl _ hg
    cases g with
    | mp k0 v0 es0 H0 => rw [hv _ _ _ _ h1, hφ.blk]
    | row _ _ => exact h2.elim
    | box _ _ => exact h2.elim
    | obox _ o => cases o <;> exact h2.elim
  | slv r lo hi =>
    intro t xs H hg
    obtain ⟨hφ, g, h1, h2⟩ := hl r rfl _ hg
    cases g with
    | row t0 xs0 =>
      obtain ⟨rfl, h3⟩ := h2
      have := hv _ _ _ h1
      rw [h3, hφ.blk, hφ.off, hφ.cap] at this
      exact this
    | box _ _ => exact h2.elim
    | obox _ o => cases o <;> exact h2.elim
    | mp _ _ _ _ => exact h2.elim
  | sl r =>
    intro t xs H hg
    obtain ⟨hφ, g, h1, h2⟩ := hl r rfl _ hg
    cases g with
    | row t0 xs0 =>
      obtain ⟨rfl, h3⟩ := h2
      have := hv _ _ _ h1
      rw [this, hφ.addr, hφ.cap, h3]
    | box _ _ => exact h2.elim
    | obox _ o => cases o <;> exact h2.elim
    | mp _ _ _ _ => exact h2.elim
  | addr r p => exact addr_mono (fun g' hg => hl r rfl g' hg) hv
  | fna f r p =>
    obtain ⟨pv, e, h1⟩ := hv
    exact ⟨pv, e, addr_mono (fun g' hg => hl r rfl g' hg) h1⟩
  | fnr f t x =>
    obtain ⟨b, o, cs, ty, fz, e1, e2, e3, e4⟩ := hv
    exact ⟨b, o, cs, ty, fz, e1, (h _ _ e2 e3).1, (h _ _ e2 e3).2, Ty.rd_mono h _ _ _ e4⟩

theorem All2.imp {α β : Type} {R S : α → β → Prop} {as : List α} {bs : List β} (h : All2 R as bs) (hi : ∀ a b, a ∈ as → R a b → S a b) : All2 S as bs := by
  induction h with
  | nil => exact .nil
  | cons h t ih => exact .cons (hi _ _ (by simp) h) (ih fun a b ha => hi a b (by simp [ha]))
theorem All2.length {α β : Type} {R : α → β → Prop} {as : List α} {bs : List β} (h : All2 R as bs) : as.length = bs.length := by
  induction h with
  | nil => rfl
  | cons h t ih => simp [ih]
theorem All2.get {α β : Type} {R : α → β → Prop} {as : List α} {bs : List β} (h : All2 R as bs) : ∀ (i : Nat) (a : α), as[i]? = some a → ∃ b, bs[i]? = some b ∧ R a b := by
  induction h with
  | nil => intro i a h; simp at h
  | cons h t ih =>
    intro i a ha
    cases i with
    | zero => simp at ha; subst ha; exact ⟨_, by simp, h⟩
    | succ i => simp at ha; obtain ⟨b, hb, hr⟩ := ih i a ha; exact ⟨b, by simpa using hb, hr⟩

theorem AVRel.mono {rs rs' : Regs} {φ φ' : Phi} {ok ok' : Nat → Prop} {w w' : World} {x : AV} {v : Value}
    (h : ∀ b o, ok b → w.heap[b]? = some o → ok' b ∧ w'.heap[b]? = some o)
    (hl : ∀ r, x.mentions r → ∀ g', look rs' r = some g' → (φ r).same (φ' r) ∧ ∃ g, look rs r = some g ∧ SameKind g g')
    (hv : AVRel rs φ ok w x v) : AVRel rs' φ' ok' w' x v := by
  cases x with
  | s x => exact SVRel.mono h hl hv
  | tup xs =>
    obtain ⟨vs, rfl, ha⟩ := hv
    exact ⟨vs, rfl, ha.imp fun a b hm hr => SVRel.mono h (fun r hr' => hl r ⟨a, hm, hr'⟩) hr⟩
  | fn f xs =>
    obtain ⟨vs, rfl, ha⟩ := hv
    exact ⟨vs, rfl, ha.imp fun a b hm hr => SVRel.mono h (fun r hr' => hl r ⟨a, hm, hr'⟩) hr⟩
  | gd k b want x => exact ⟨fun e => SVRel.mono h hl (hv.1 e), hv.2⟩

/-- A region stays, its root's block as it was in v, the blocks behind it as in w. -/
theorem Reg.at_mono {ok ok' : Nat → Prop} {w w' v v' : World} {l : Sub} {g : Reg} (h : ∀ b o, ok b → w.heap[b]? = some o → ok' b ∧ w'.heap[b]? = some o)
    (hb : ∀ b, l.blk = some b → v'.heap[b]? = v.heap[b]?) (hs : ∀ p b, p ≠ [] → (l p).blk = some b → w'.heap[b]? = w.heap[b]?) (hg : g.at2 ok w v l) : g.at2 ok' w' v' l := by
  have hs' : ∀ (a : Step) p b, ((l.at [a]) p).blk = some b → w'.heap[b]? = w.heap[b]? := fun a p b hb => hs (a :: p) b (by simp) hb
  have own : ∀ t xs, ownC ok w v t l xs → ownC ok' w' v' t l xs := by
    intro t xs hg
    refine ⟨hg.1, ?_⟩
    have h2 := hg.2
    cases hbl : (l []).blk with
    | none => simp only [hbl] at h2 ⊢; exact h2
    | some b =>
      simp only [hbl] at h2 ⊢
      obtain ⟨cs, ty, fz, e1, e2, e3, e4⟩ := h2
      exact ⟨cs, ty, fz, (hb b hbl).trans e1, e2, e3, fun i hi => Ty.rd_mono' h _ _ _ _ (hs' _) (e4 i hi)⟩
  have box : ∀ t x, boxC ok w v t l x → boxC ok' w' v' t l x := by
    intro t x hg
    obtain ⟨e0, b, cs, ty, fz, e1, e2, e3, e4, e5⟩ := hg
    exact ⟨e0, b, cs, ty, fz, e1, (hb b e1).trans e2, e3, e4, Ty.rd_mono' h _ _ _ _ (hs' _) e5⟩
  cases g with
  | row t xs => exact own t xs hg
  | box t x => exact box t x hg
  | obox t o =>
    cases o with
    | none => exact hg
    | some x => exact box t x hg
  | mp k vt o =>
    cases o with
    | none => exact hg
    | some es =>
      obtain ⟨e0, b, ms, clock, e1, e2, e3, d1, d2, e4⟩ := hg
      refine ⟨e0, b, ms, clock, e1, (hb b e1).trans e2, e3, d1, d2, fun i hi hi' => ?_⟩
      obtain ⟨f1, f2, f3, f4, f5, f6⟩ := e4 i hi hi'
      refine ⟨Ty.rd_mono h _ _ _ f1, f2, f3, Ty.rd_mono' h _ _ _ _ (fun p b hb => ?_) f4, f5, f6⟩
      cases k <;> first | exact hs' _ p b hb | cases hb

def St.put (st : St) (dst : Option Tmp) (v : AV) : St :=
  match dst with
  | some d => { st with tmps := st.tmps.set d v }
  | none => st
@[simp] theorem St.put_regs (st : St) (dst : Option Tmp) (v : AV) : (st.put dst v).regs = st.regs := by cases dst <;> rfl
@[simp] theorem St.put_next (st : St) (dst : Option Tmp) (v : AV) : (st.put dst v).next = st.next := by cases dst <;> rfl
@[simp] theorem St.put_gh (st : St) (dst : Option Tmp) (v : AV) : (st.put dst v).gh = st.gh := by cases dst <;> rfl

theorem RelF.put {cx : Cx} {φ : Phi} {st : St} {a : Act} {w : World} (R : RelF cx φ st a w) {dst : Option Tmp} {av : AV} {v : Value}
    (hv : AVRel st.regs φ (okOf st.regs φ) w av v) : RelF cx φ (st.put dst av) (a.put dst v) w := by
  cases dst with
  | none => exact R
  | some d =>
    refine ⟨by simp [Act.put, R.size], by simp [St.put, R.len], R.df, ?_, R.gh, R.lay, R.kp, R.hB, R.bs⟩
    intro i x hx
    simp only [St.put, Act.put] at hx ⊢
    rw [List.getElem?_set] at hx
    by_cases hdi : d = i
    · subst hdi
      rw [if_pos rfl] at hx
      split at hx
      · rename_i hlt
        cases hx
        have hlt' : d < a.tmps.size := by rw [R.size, ← R.len]; exact hlt
        have e : (a.tmps.setIfInBounds d v).getD d undef = v := by simp [hlt']
        rw [e]; exact hv
      · cases hx
    · rw [if_neg hdi] at hx
      have e : (a.tmps.setIfInBounds d v).getD i undef = a.tmps.getD i undef := by
        simp [Array.getElem?_setIfInBounds_ne hdi]
      rw [e]; exact R.tm i x hx

/-- A world that differs in what no cell tells. -/
theorem RelF.heap {cx : Cx} {φ : Phi} {st : St} {a : Act} {w w' : World} (R : RelF cx φ st a w) (hh : w'.heap = w.heap) (ho : w'.os = w.os)
    (ht : w'.tape = w.tape) (hu : w'.output = w.output) : RelF cx φ st a w' := by
  have hm : ∀ b o, okOf st.regs φ b → w.heap[b]? = some o → okOf st.regs φ b ∧ w'.heap[b]? = some o := fun b o h1 h2 => ⟨h1, by rw [hh]; exact h2⟩
  have hk : ∀ r, ∀ g', look st.regs r = some g' → (φ r).same (φ r) ∧ ∃ g, look st.regs r = some g ∧ SameKind g g' := fun r g' hg => ⟨.rfl' _, g', hg, .refl _⟩
  refine ⟨R.size, R.len, R.df, fun i av h => AVRel.mono hm (fun r _ => hk r) (R.tm i av h), R.gh.imp fun av v _ hr => AVRel.mono hm (fun r _ => hk r) hr, ?_,
    ⟨ho.trans R.kp.os, ht.trans R.kp.tape, hu.trans R.kp.output, by rw [hh]; exact R.kp.size, fun k hk ho => by rw [hh]; exact R.kp.block k hk ho⟩, by rw [hh]; exact R.hB, R.bs⟩
  have L := R.lay
  refine ⟨fun r g h => Reg.at_mono hm (fun b _ => by rw [hh]) (fun _ b _ _ => by rw [hh]) (L.rg r g h), L.inj, L.sep, fun r g b h1 h2 => by rw [hh]; exact L.al r g b h1 h2, L.fr, L.io, ?_, L.told, L.ht⟩
  intro r g hg p m hm' hp gm hgm
  rw [cellR_congr (w := w) (fun b _ => by rw [hh])]
  exact L.hl r g hg p m hm' hp gm hgm

/-- Regions and the world change. -/
theorem RelF.change {cx : Cx} {φ φ' : Phi} {st : St} {a : Act} {w w' : World} {rs' : Regs} (R : RelF cx φ st a w)
    (hm : ∀ b o, okOf st.regs φ b → w.heap[b]? = some o → okOf rs' φ' b ∧ w'.heap[b]? = some o)
    (hl : ∀ r g', look rs' r = some g' → (¬ Fresh st r) → (φ r).same (φ' r) ∧ ∃ g, look st.regs r = some g ∧ SameKind g g')
    (lay : Lay cx φ' rs' w')
    (kp : Kept cx.own cx.B w w') (hbase : φ'.base = φ.base) : RelF cx φ' { st with regs := rs' } a w' :=
  ⟨R.size, R.len, R.df, fun i av h => AVRel.mono hm (fun r hr g' hg => hl r g' hg fun hf => hf.2.1 av (List.mem_of_getElem? h) hr) (R.tm i av h),
    R.gh.imp fun av v hav hv => AVRel.mono hm (fun r hr g' hg => hl r g' hg fun hf => hf.2.2.1 av hav hr) hv, lay,
    R.kp.trans kp (fun _ _ h => h) (fun _ _ h => h), Nat.le_trans R.hB kp.size, by rw [hbase]; exact R.bs⟩

def setLoc (φ : Phi) (n : Nat) (l : Sub) : Phi := ⟨fun r => if r = n then l else φ r, φ.base⟩
@[simp] theorem setLoc_same (φ : Phi) (n : Nat) (l : Sub) : setLoc φ n l n = l := by simp [setLoc]
theorem setLoc_ne (φ : Phi) {n r : Nat} (l : Sub) (h : r ≠ n) : setLoc φ n l r = φ r := by simp [setLoc, h]
theorem setLoc_self (φ : Phi) (r : Nat) : setLoc φ r (φ r) = φ := by
  cases φ with
  | mk loc base =>
    simp only [setLoc]
    congr 1
    funext s
    split <;> simp_all
def without (rs : Regs) : Option Nat → Regs
  | none => rs
  | some r => drop rs r
theorem look_without (rs : Regs) (old : Option Nat) (s : Nat) : look (without rs old) s = if old = some s then none else look rs s := by
  cases old with
  | none => simp [without]
  | some r => simp only [without, look_drop, Option.some.injEq]

/-- One region is made, written, or takes another's place. -/
theorem RelF.stepL {cx : Cx} {φ : Phi} {st : St} {a : Act} {w w' : World} (R : RelF cx φ st a w) (old : List Nat) (n : Nat) (g' : Reg) (l : Sub) (rs' : Regs)
    (hrs : ∀ s, look rs' s = if n = s then some g' else if s ∈ old then none else look st.regs s)
    (hblk : ∀ b, l.has b → w.heap.size ≤ b ∨ ∃ r g, r ∈ old ∧ look st.regs r = some g ∧ (φ r).has b)
    (hsub : ∀ p b, p ≠ [] → (l p).blk = some b → b < w.heap.size)
    (hal : ∀ b, l.has b → b < w'.heap.size) (hinj : l.inj)
    (hother : ∀ b, b < w.heap.size → l.blk ≠ some b → w'.heap[b]? = w.heap[b]?)
    (hn : Fresh st n ∨ (n ∈ old ∧ (φ n).same l ∧ ∃ g, look st.regs n = some g ∧ SameKind g g'))
    (hio : ∀ l0, (n, l0) ∈ cx.io → ¬ Fresh st n)
    (hat : g'.at2 (okOf st.regs φ) w w' l)
    (hhl : ∀ p m, (p, m) ∈ g'.holes → m ≠ n ∧ (m ∉ old → pokR g' p → ∀ gm, look st.regs m = some gm → cellR w' l g' p = some (hdr (φ m) gm)))
    (htold : ∀ q, (l q).hd = false → ∃ p m, (p, m) ∈ g'.holes ∧ q = g'.base ++ p ∧ pokR g' p)
    (hht : ∀ p m, (p, m) ∈ g'.holes → (g'.isCells = true → pokR g' p) ∧ ∃ u, ptyR g' p = some u ∧ u.link = true)
    (hos : w'.os = w.os) (htape : w'.tape = w.tape) (hout : w'.output = w.output) (hsize : w.heap.size ≤ w'.heap.size) :
    RelF cx (setLoc φ n l) { st with regs := rs' } a w' := by
  have L := R.lay
  have hlook : ∀ s g, look rs' s = some g → (s = n ∧ g = g') ∨ (s ≠ n ∧ s ∉ old ∧ look st.regs s = some g) := by
    intro s g h
    rw [hrs] at h
    split at h
    · rename_i e; cases h; exact .inl ⟨e.symm, rfl⟩
    · rename_i e
      split at h
      · cases h
      · rename_i e2; exact .inr ⟨fun e3 => e e3.symm, e2, h⟩
  -- a block of another region is not the new one's
  have hne : ∀ s g b, s ≠ n → s ∉ old → look st.regs s = some g → (φ s).has b → ¬ l.has b := by
    intro s g b h1 h2 h3 h4 h5
    rcases hblk b h5 with h6 | ⟨r, g2, e1, e2, e3⟩
    · have := L.al s g b h3 h4; omega
    · have := L.sep s r g g2 b h3 e2 h4 e3
      subst this; exact h2 e1
  have hm : ∀ b o, okOf st.regs φ b → w.heap[b]? = some o → okOf rs' (setLoc φ n l) b ∧ w'.heap[b]? = some o := by
    intro b o hok hh
    have hlt : b < w.heap.size := by
      rcases Nat.lt_or_ge b w.heap.size with h1 | h1
      · exact h1
      · simp [Array.getElem?_eq_none h1] at hh
    have hlb : ¬ l.has b := by
      intro e
      rcases hblk b e with h6 | ⟨r, g2, e1, e2, e3⟩
      · omega
      · exact hok.1 r g2 e2 e3
    refine ⟨⟨?_, hok.2⟩, (hother b hlt fun e => hlb (Sub.has_blk e)).trans hh⟩
    intro s g hs
    rcases hlook s g hs with ⟨e1, e2⟩ | ⟨e1, e2, e3⟩
    · subst e1; rw [setLoc_same]; exact hlb
    · rw [setLoc_ne φ l e1]; exact hok.1 s g e3
  -- another region's blocks stay
  have hstay : ∀ s g, s ≠ n → s ∉ old → look st.regs s = some g → ∀ b, (φ s).has b → w'.heap[b]? = w.heap[b]? := fun s g h1 h2 h3 b hb =>
    hother b (L.al s g b h3 hb) fun e => hne s g b h1 h2 h3 hb (Sub.has_blk e)
  refine R.change (w' := w') hm ?_ ?_ ?_ rfl
  · intro r g hg hmen
    rcases hlook r g hg with ⟨e1, e2⟩ | ⟨e1, e2, e3⟩
    · subst e1; subst e2
      rcases hn with hf | ⟨_, h2, h3⟩
      · exact (hmen hf).elim
      · exact ⟨by rw [setLoc_same]; exact h2, h3⟩
    · exact ⟨by rw [setLoc_ne φ l e1]; exact .rfl' _, g, e3, SameKind.refl g⟩
  · refine ⟨?_, ?_, ?_, ?_, ?_, ?_, ?_, ?_, ?_⟩
    · intro r g hg
      rcases hlook r g hg with ⟨e1, e2⟩ | ⟨e1, e2, e3⟩
      · subst e1; subst e2
        rw [setLoc_same]
        refine Reg.at_mono hm (fun _ _ => rfl) (fun p b hp hb => ?_) hat
        exact hother b (hsub p b hp hb) fun e => hp (hinj p [] b hb e)
      · rw [setLoc_ne φ l e1]
        exact Reg.at_mono hm (fun b hb => hstay r g e1 e2 e3 b (Sub.has_blk hb)) (fun p b _ hb => hstay r g e1 e2 e3 b ⟨p, hb⟩) (L.rg r g e3)
    · intro r g hg
      rcases hlook r g hg with ⟨e1, e2⟩ | ⟨e1, e2, e3⟩
      · subst e1; rw [setLoc_same]; exact hinj
      · rw [setLoc_ne φ l e1]; exact L.inj r g e3
    · intro r r' g g2 b h1 h2 h3 h4
      rcases hlook r g h1 with ⟨e1, _⟩ | ⟨e1, e2, e3⟩ <;> rcases hlook r' g2 h2 with ⟨f1, _⟩ | ⟨f1, f2, f3⟩
      · rw [e1, f1]
      · subst e1
        rw [setLoc_same] at h3; rw [setLoc_ne φ l f1] at h4
        exact (hne r' g2 b f1 f2 f3 h4 h3).elim
      · subst f1
        rw [setLoc_same] at h4; rw [setLoc_ne φ l e1] at h3
        exact (hne r g b e1 e2 e3 h3 h4).elim
      · rw [setLoc_ne φ l e1] at h3; rw [setLoc_ne φ l f1] at h4
        exact L.sep r r' g g2 b e3 f3 h3 h4
    · intro r g b h1 h2
      rcases hlook r g h1 with ⟨e1, _⟩ | ⟨e1, e2, e3⟩
      · subst e1; rw [setLoc_same] at h2; exact hal b h2
      · rw [setLoc_ne φ l e1] at h2; exact Nat.lt_of_lt_of_le (L.al r g b e3 h2) hsize
    · intro r g b h1 h2
      rcases hlook r g h1 with ⟨e1, _⟩ | ⟨e1, e2, e3⟩
      · subst e1
        rw [setLoc_same] at h2
        rcases hblk b h2 with h6 | ⟨r2, g2, f1, f2, f3⟩
        · have := R.hB; left; omega
        · exact L.fr r2 g2 b f2 f3
      · rw [setLoc_ne φ l e1] at h2
        exact L.fr r g b e3 h2
    · intro r l0 h1 h2
      obtain ⟨g, hg⟩ := Option.isSome_iff_exists.1 h2
      rcases hlook r g hg with ⟨e1, _⟩ | ⟨e1, e2, e3⟩
      · subst e1
        rcases hn with hf | ⟨_, h2, g0, h3, _⟩
        · exact (hio l0 h1 hf).elim
        · rw [setLoc_same]
          exact h2.symm.trans (L.io r l0 h1 (by simp [h3]))
      · rw [setLoc_ne φ l e1]
        exact L.io r l0 h1 (by simp [e3])
    · intro r g hg p m hpm hp gm hgm
      rcases hlook r g hg with ⟨e1, e2⟩ | ⟨e1, e2, e3⟩
      · subst e1; subst e2
        obtain ⟨k1, k2⟩ := hhl p m hpm
        rcases hlook m gm hgm with ⟨f1, _⟩ | ⟨f1, f2, f3⟩
        · exact (k1 f1).elim
        · rw [setLoc_same, setLoc_ne φ l f1]
          exact k2 f2 hp gm f3
      · rw [setLoc_ne φ l e1, cellR_congr (w := w) (fun b hb => hstay r g e1 e2 e3 b (Sub.has_blk hb))]
        rcases hlook m gm hgm with ⟨f1, f2⟩ | ⟨f1, f2, f3⟩
        · subst f1; subst f2
          rcases hn with hf | ⟨_, h2, g0, h3, h4⟩
          · exact (hf.2.2.2 r g e3 p hpm).elim
          · rw [setLoc_same, L.hl r g e3 p m hpm hp g0 h3, h4.hdr h2]
        · rw [setLoc_ne φ l f1]; exact L.hl r g e3 p m hpm hp gm f3
    · intro r g hg q hq
      rcases hlook r g hg with ⟨e1, e2⟩ | ⟨e1, e2, e3⟩
      · subst e1; subst e2; rw [setLoc_same] at hq; exact htold q hq
      · rw [setLoc_ne φ l e1] at hq; exact L.told r g e3 q hq
    · intro r g hg p m hpm
      rcases hlook r g hg with ⟨e1, e2⟩ | ⟨e1, e2, e3⟩
      · subst e1; subst e2; exact ⟨(hhl p m hpm).1, hht p m hpm⟩
      · exact L.ht r g e3 p m hpm
  · refine ⟨hos, htape, hout, hsize, fun k hk hown => ?_⟩
    refine hother k (by have := R.hB; omega) (fun e => ?_)
    rcases hblk k (Sub.has_blk e) with h6 | ⟨r2, g2, f1, f2, f3⟩
    · have := R.hB; omega
    · rcases L.fr r2 g2 k f2 f3 with h7 | h7
      · omega
      · exact hown h7

/-- One region is made, written, or takes another's place. -/
theorem RelF.step {cx : Cx} {φ : Phi} {st : St} {a : Act} {w w' : World} (R : RelF cx φ st a w) (old : Option Nat) (n : Nat) (g' : Reg) (l : Sub)
    (hblk : ∀ b, l.has b → w.heap.size ≤ b ∨ ∃ r g, old = some r ∧ look st.regs r = some g ∧ (φ r).has b)
    (hsub : ∀ p b, p ≠ [] → (l p).blk = some b → b < w.heap.size)
    (hal : ∀ b, l.has b → b < w'.heap.size) (hinj : l.inj)
    (hother : ∀ b, b < w.heap.size → l.blk ≠ some b → w'.heap[b]? = w.heap[b]?)
    (hn : Fresh st n ∨ (old = some n ∧ (φ n).same l ∧ ∃ g, look st.regs n = some g ∧ SameKind g g'))
    (hio : ∀ l0, (n, l0) ∈ cx.io → ¬ Fresh st n)
    (hat : g'.at2 (okOf st.regs φ) w w' l)
    (hhl : ∀ p m, (p, m) ∈ g'.holes → m ≠ n ∧ (old ≠ some m → pokR g' p → ∀ gm, look st.regs m = some gm → cellR w' l g' p = some (hdr (φ m) gm)))
    (htold : ∀ q, (l q).hd = false → ∃ p m, (p, m) ∈ g'.holes ∧ q = g'.base ++ p ∧ pokR g' p)
    (hht : ∀ p m, (p, m) ∈ g'.holes → (g'.isCells = true → pokR g' p) ∧ ∃ u, ptyR g' p = some u ∧ u.link = true)
    (hos : w'.os = w.os) (htape : w'.tape = w.tape) (hout : w'.output = w.output) (hsize : w.heap.size ≤ w'.heap.size) :
    RelF cx (setLoc φ n l) { st with regs := upd (without st.regs old) n (some g') } a w' := by
  have hm : ∀ s : Nat, s ∈ old.toList ↔ old = some s := fun s => by cases old <;> simp [eq_comm]
  refine R.stepL old.toList n g' l _ (fun s => ?_) (fun b hb => (hblk b hb).imp id fun ⟨r, g, h1, h2⟩ => ⟨r, g, (hm r).2 h1, h2⟩) hsub hal hinj hother (hn.imp id fun ⟨h1, h2⟩ => ⟨(hm n).2 h1, h2⟩) hio hat
    (fun p m h => ⟨(hhl p m h).1, fun h1 => (hhl p m h).2 fun e => h1 ((hm m).2 e)⟩) htold hht hos htape hout hsize
  rw [look_upd, look_without]
  simp only [hm]

/-- The same, where nothing lies behind it. -/
theorem RelF.step1 {cx : Cx} {φ : Phi} {st : St} {a : Act} {w w' : World} (R : RelF cx φ st a w) (old : Option Nat) (n : Nat) (g' : Reg) (bl : Option Nat) (off cap : Nat)
    (hblk : ∀ b, bl = some b → (w.heap.size ≤ b ∧ b < w'.heap.size) ∨ ∃ r g, old = some r ∧ look st.regs r = some g ∧ (φ r).has b)
    (hother : ∀ b, b < w.heap.size → bl ≠ some b → w'.heap[b]? = w.heap[b]?)
    (hn : Fresh st n ∨ (old = some n ∧ (φ n).same (mkSub bl off cap) ∧ ∃ g, look st.regs n = some g ∧ SameKind g g'))
    (hio : ∀ l0, (n, l0) ∈ cx.io → ¬ Fresh st n) (hH : g'.holes = [])
    (hat : g'.at2 (okOf st.regs φ) w w' (mkSub bl off cap))
    (hos : w'.os = w.os) (htape : w'.tape = w.tape) (hout : w'.output = w.output) (hsize : w.heap.size ≤ w'.heap.size) :
    RelF cx (setLoc φ n (mkSub bl off cap)) { st with regs := upd (without st.regs old) n (some g') } a w' := by
  refine R.step old n g' (mkSub bl off cap) ?_ ?_ ?_ (mkSub_inj _ _ _) hother hn hio hat (by simp [hH]) (fun q hq => by rw [mkSub_hd] at hq; cases hq) (by simp [hH]) hos htape hout hsize
  · intro b hb
    rcases hblk b (mkSub_has.1 hb) with h | h
    · exact .inl h.1
    · exact .inr h
  · intro p b hp hb; exact (hp (mkSub_get hb).1).elim
  · intro b hb
    rcases hblk b (mkSub_has.1 hb) with h | ⟨r, g, _, h2, h3⟩
    · exact h.2
    · exact Nat.lt_of_lt_of_le (R.lay.al r g b h2 h3) hsize

end Go.Lift
/- The abstract operations that touch no memory, and that they tell what the machine does. -/
namespace Go.Lift
open Go

theorem VRel.cells_one {ok : Nat → Prop} {w : World} {t : Ty} {x : t.den} {v : Value} (h : VRel ok w t x v) (ht : t.agg = false) : v.cells = #[v] := by
  have := h.2.2
  rw [ht] at this
  cases v <;> first | rfl | (simp [Value.isAgg] at this)
theorem VRel.int_eq {ok : Nat → Prop} {w : World} {k : IntKind} {x : Int} {v : Value} (h : VRel ok w (.int k) x v) : v = .int k x := by
  have h1 := h.1
  rw [h.cells_one rfl] at h1
  simpa [Ty.rd] using h1
theorem VRel.bool_eq {ok : Nat → Prop} {w : World} {x : Bool} {v : Value} (h : VRel ok w .bool x v) : v = .bool x := by
  have h1 := h.1
  rw [h.cells_one rfl] at h1
  simpa [Ty.rd] using h1
theorem VRel.str_eq {ok : Nat → Prop} {w : World} {x : ByteArray} {v : Value} (h : VRel ok w .str x v) : v = .string x := by
  have h1 := h.1
  rw [h.cells_one rfl] at h1
  simpa [Ty.rd] using h1
theorem VRel.of_int (ok : Nat → Prop) (w : World) (k : IntKind) (x : Int) : VRel ok w (.int k) x (.int k x) := ⟨rfl, rfl, rfl⟩
theorem VRel.of_bool (ok : Nat → Prop) (w : World) (x : Bool) : VRel ok w .bool x (.bool x) := ⟨rfl, rfl, rfl⟩
theorem VRel.of_str (ok : Nat → Prop) (w : World) (x : ByteArray) : VRel ok w .str x (.string x) := ⟨rfl, rfl, rfl⟩

def vI (k : IntKind) (x : Int) : SV := .val (.int k) x
def vB (b : Bool) : SV := .val .bool b
def vS (s : ByteArray) : SV := .val .str s

def intOp (op : BinOp) (k : IntKind) (a b : Int) : Option (List Prop × SV) :=
  match op with
  | .add => some ([], vI k (k.wrap (a + b)))
  | .sub => some ([], vI k (k.wrap (a - b)))
  | .mul => some ([], vI k (k.wrap (a * b)))
  | .quo => some ([b ≠ 0], vI k (k.wrap (a.tdiv b)))
  | .rem => some ([b ≠ 0], vI k (a.tmod b))
  | .and => some ([], vI k (bits .and k a b))
  | .or => some ([], vI k (bits .or k a b))
  | .xor => some ([], vI k (bits .xor k a b))
  | .andNot => some ([], vI k (bits .andNot k a b))
  | .eql => some ([], vB (a == b))
  | .neq => some ([], vB (a != b))
  | .lss => some ([], vB (decide (a < b)))
  | .leq => some ([], vB (decide (a ≤ b)))
  | .gtr => some ([], vB (decide (a > b)))
  | .geq => some ([], vB (decide (a ≥ b)))
  | _ => none

def strOp (op : BinOp) (a b : ByteArray) : Option (List Prop × SV) :=
  match op with
  | .eql => some ([], vB (a.toList == b.toList))
  | .neq => some ([], vB (!(a.toList == b.toList)))
  | .add => some ([((a.size + b.size : Nat) : Int) ≤ 9223372036854775807], vS (a ++ b))
  | _ => none

def binV (op : BinOp) (x y : SV) : Option (List Prop × SV) :=
  match x, y with
  | .val (.int k) a, .val (.int k') b =>
    match op with
    | .shl => some ([0 ≤ b], vI k (k.wrap (a * 2 ^ (min b.toNat k.bits))))
    | .shr => some ([0 ≤ b], vI k (a.fdiv (2 ^ (min b.toNat k.bits))))
    | op => if k = k' then intOp op k a b else none
  | .val .str a, .val .str b => strOp op a b
  | .val .bool a, .val .bool b =>
    match op with
    | .eql => some ([], vB (a == b))
    | .neq => some ([], vB (a != b))
    | _ => none
  | _, _ => none

theorem run_equalIn_bool {P : Program} {w : World} {t : TypeId} (h : P.underlying t = some .bool) (a b : Bool) (d : Nat) : (Op.equalIn (d + 1) t (.bool a) (.bool b)).run P w = .ok (a == b) w := by
  simp [Op.equalIn, run_underlying h]
theorem run_equal_bool {P : Program} {w : World} {t : TypeId} (h : P.underlying t = some .bool) (a b : Bool) : (Op.equal t (.bool a) (.bool b)).run P w = .ok (a == b) w :=
  run_equalIn_bool h a b 9999

theorem binV_sound {P : Program} {rs : Regs} {φ : Phi} {ok : Nat → Prop} {w : World} {op : BinOp} {t : TypeId} {x y v : SV} {vc : List Prop} {X Y : Value} (xo yo : Operand)
    (h : binV op x y = some (vc, v)) (hvc : ∀ p ∈ vc, p) (ht : ∀ b, x = .val .bool b → P.underlying t = some .bool)
    (hx : SVRel rs φ ok w x X) (hy : SVRel rs φ ok w y Y) :
    ∃ V, (do eqGuard op t xo yo X Y; binOp op t X Y : Sem Value).run P w = .ok V w ∧ SVRel rs φ ok w v V := by
  unfold binV at h
  split at h
  · rename_i k a k' b
    have eX : X = .int k a := VRel.int_eq hx
    have eY : Y = .int k' b := VRel.int_eq hy
    subst eX; subst eY
    split at h
    · cases h
      have h0 : 0 ≤ b := hvc _ (by simp)
      refine ⟨_, ?_, VRel.of_int _ _ _ _⟩
      simp [eqGuard_at_int, binOp, Op.shift, Int.not_lt.2 h0]
    · cases h
      have h0 : 0 ≤ b := hvc _ (by simp)
      refine ⟨_, ?_, VRel.of_int _ _ _ _⟩
      simp [eqGuard_at_int, binOp, Op.shift, Int.not_lt.2 h0]
    · rename_i n1 n2
      split at h
      · rename_i hk
        subst hk
        unfold intOp at h
        split at h <;> first | (cases h; done) | skip
        all_goals (cases h)
        · exact ⟨_, by simp [eqGuard_at_int, binOp_add, Op.intArith], VRel.of_int _ _ _ _⟩
        · exact ⟨_, by simp [eqGuard_at_int, binOp_sub, Op.intArith], VRel.of_int _ _ _ _⟩
        · exact ⟨_, by simp [eqGuard_at_int, binOp_mul, Op.intArith], VRel.of_int _ _ _ _⟩
        · have h0 : b ≠ 0 := hvc _ (by simp)
          exact ⟨_, by simp [eqGuard_at_int, binOp_quo, Op.intDiv, h0], VRel.of_int _ _ _ _⟩
        · have h0 : b ≠ 0 := hvc _ (by simp)
          exact ⟨_, by simp [eqGuard_at_int, binOp_rem, Op.intDiv, h0], VRel.of_int _ _ _ _⟩
        · exact ⟨_, by simp [eqGuard_at_int, binOp_and, intBits_and], VRel.of_int _ _ _ _⟩
        · exact ⟨_, by simp [eqGuard_at_int, binOp_or, intBits_or], VRel.of_int _ _ _ _⟩
        · exact ⟨_, by simp [eqGuard_at_int, binOp_xor, intBits_xor], VRel.of_int _ _ _ _⟩
        · exact ⟨_, by simp [eqGuard_at_int, binOp_andNot, intBits_andNot], VRel.of_int _ _ _ _⟩
        · exact ⟨_, by simp [eqGuard_at_int, binOp_eql], VRel.of_bool _ _ _⟩
        · exact ⟨_, by simp [eqGuard_at_int, binOp_neq], VRel.of_bool _ _ _⟩
        · exact ⟨_, by simp [eqGuard_at_int, binOp_lss], VRel.of_bool _ _ _⟩
        · exact ⟨_, by simp [eqGuard_at_int, binOp_leq], VRel.of_bool _ _ _⟩
        · exact ⟨_, by simp [eqGuard_at_int, binOp_gtr], VRel.of_bool _ _ _⟩
        · exact ⟨_, by simp [eqGuard_at_int, binOp_geq], VRel.of_bool _ _ _⟩
      · cases h
  · rename_i a b
    have eX : X = .string a := VRel.str_eq hx
    have eY : Y = .string b := VRel.str_eq hy
    subst eX; subst eY
    unfold strOp at h
    split at h <;> first | (cases h; done) | skip
    all_goals (cases h)
    · exact ⟨_, by simp [eqGuard_at_string, binOp, Op.stringOp], VRel.of_bool _ _ _⟩
    · exact ⟨_, by simp [eqGuard_at_string, binOp, Op.stringOp], VRel.of_bool _ _ _⟩
    · have h0 := hvc _ (List.mem_singleton.2 rfl)
      have h1 : ¬ (((a.size + b.size : Nat) : Int) > IntKind.i64.max) := by
        have : IntKind.i64.max = 9223372036854775807 := by decide
        omega
      refine ⟨_, ?_, VRel.of_str _ _ _⟩
      simp only [eqGuard_at_string, binOp, Op.stringOp, if_neg h1, Sem.run_bind, Sem.run_pure, Result.andThen_ok]
  · rename_i a b
    have eX : X = .bool a := VRel.bool_eq hx
    have eY : Y = .bool b := VRel.bool_eq hy
    subst eX; subst eY
    have hu := ht a rfl
    split at h <;> first | (cases h; done) | skip
    all_goals (cases h)
    · exact ⟨_, by simp [eqGuard_at_bool, binOp, run_equal_bool hu], VRel.of_bool _ _ _⟩
    · exact ⟨_, by simp [eqGuard_at_bool, binOp, run_equal_bool hu, bne], VRel.of_bool _ _ _⟩
  · cases h

end Go.Lift
/- What the machine's loads, stores and makers do to a block that is known whole. -/
namespace Go.Lift
open Go

structure Wrote (w w' : World) (b : Nat) (o : Obj) : Prop where
  at_ : w'.heap[b]? = some o
  other : ∀ k, k ≠ b → w'.heap[k]? = w.heap[k]?
  size : w'.heap.size = w.heap.size
  os : w'.os = w.os
  tape : w'.tape = w.tape
  output : w'.output = w.output
theorem Wrote.trans {w w' w'' : World} {b : Nat} {o o' : Obj} (h : Wrote w w' b o) (k : Wrote w' w'' b o') : Wrote w w'' b o' :=
  ⟨k.at_, fun i hi => (k.other i hi).trans (h.other i hi), k.size.trans h.size, k.os.trans h.os, k.tape.trans h.tape, k.output.trans h.output⟩
theorem Wrote.self {w : World} {b : Nat} {o : Obj} (h : w.heap[b]? = some o) : Wrote w w b o := ⟨h, fun _ _ => rfl, rfl, rfl, rfl, rfl⟩

theorem add_mk (b o i : Nat) : (⟨b, o, none⟩ : Addr).add i = ⟨b, o + i, none⟩ := by unfold Addr.add; split <;> simp_all

theorem run_store_cell {P : Program} {w : World} {b o : Nat} {cs : Array Value} {ty : TypeId} {fz : Nat × Nat} (v : Value) (hh : w.heap[b]? = some (.cells cs ty fz))
    (hf : Thawed fz cs.size) (ho : o < cs.size) (hv : v.oneCell' = true) :
    ∃ w', (store ⟨b, o, none⟩ v).run P w = .ok () w' ∧ Wrote w w' b (.cells (cs.setIfInBounds o v) ty fz) := by
  have hc : w.cell? ⟨b, o, none⟩ = some cs[o] := by simp [World.cell?, hh, ho]
  have hz : w.frozen? ⟨b, o, none⟩ = false := by
    have := hf o ho
    simp only [World.frozen?, hh]
    exact this
  refine ⟨w.setCell ⟨b, o, none⟩ v, ?_, ?_⟩
  · rw [run_store P w _ v _ hv, hc]; simp [hz]
  · have hlt : b < w.heap.size := (Array.getElem?_eq_some_iff.1 hh).1
    have hv : w.heap[b] = .cells cs ty fz := (Array.getElem?_eq_some_iff.1 hh).2
    refine ⟨?_, ?_, by simp [World.setCell], rfl, rfl, rfl⟩
    · simp only [World.setCell, Array.getElem?_modify]
      simp [hlt, hv]
    · intro k hk
      exact RowKit.Below.heap_setCell _ _ _ _ hk

def writeAt (cs : Array Value) (o : Nat) : List Value → Array Value
  | [] => cs
  | v :: r => writeAt (cs.setIfInBounds o v) (o + 1) r
theorem size_writeAt : ∀ (vs : List Value) (cs : Array Value) (o : Nat), (writeAt cs o vs).size = cs.size
  | [], _, _ => rfl
  | v :: r, cs, o => by simp [writeAt, size_writeAt r]
theorem get_writeAt : ∀ (vs : List Value) (cs : Array Value) (o j : Nat), o + vs.length ≤ cs.size →
    (writeAt cs o vs)[j]? = if o ≤ j ∧ j < o + vs.length then vs[j - o]? else cs[j]?
  | [], cs, o, j, _ => by
    have : ¬ (o ≤ j ∧ j < o + 0) := by omega
    simp only [writeAt, List.length_nil]; rw [if_neg this]
  | v :: r, cs, o, j, h => by
    simp only [writeAt]
    simp only [List.length_cons] at h
    rw [get_writeAt r _ _ _ (by simp; omega)]
    simp only [List.length_cons]
    by_cases h1 : j = o
    · subst h1
      rw [if_neg (by omega), if_pos (by omega)]
      have hj : j < cs.size := by omega
      simp [hj]
    · by_cases h2 : o + 1 ≤ j ∧ j < o + 1 + r.length
      · rw [if_pos h2, if_pos (by omega)]
        rw [show j - o = (j - (o + 1)) + 1 from by omega, List.getElem?_cons_succ]
      · rw [if_neg h2, if_neg (by omega), Array.getElem?_setIfInBounds_ne (by omega)]

theorem run_storeCells_wrote {P : Program} {b o0 : Nat} {ty : TypeId} {fz : Nat × Nat} : ∀ (vs : List Value) (i : Nat) (cs : Array Value) (w : World),
    w.heap[b]? = some (.cells cs ty fz) → Thawed fz cs.size → o0 + i + vs.length ≤ cs.size → (∀ v ∈ vs, v.oneCell' = true) →
    ∃ w', (storeCells ⟨b, o0, none⟩ vs i).run P w = .ok () w' ∧ Wrote w w' b (.cells (writeAt cs (o0 + i) vs) ty fz)
  | [], i, cs, w, hh, _, _, _ => ⟨w, rfl, Wrote.self hh⟩
  | v :: r, i, cs, w, hh, hf, hl, h1 => by
    simp only [List.length_cons] at hl
    obtain ⟨w1, e1, k1⟩ := run_store_cell (P := P) (o := o0 + i) v hh hf (by omega) (h1 v (by simp))
    obtain ⟨w2, e2, k2⟩ := run_storeCells_wrote (P := P) (o0 := o0) r (i + 1) _ w1 k1.at_ (by simpa using hf) (by simp; omega) (fun x hx => h1 x (by simp [hx]))
    refine ⟨w2, ?_, ?_⟩
    · simp only [storeCells, Sem.run_bind, add_mk, e1, Result.andThen_ok, e2]
    · simp only [writeAt]
      rw [← Nat.add_assoc] at k2
      exact k1.trans k2

theorem Ty.rd_cell {ok : Nat → Prop} {w : World} : ∀ (t : Ty) (s : Sub) (x : t.den) (c : Nat → Option Value), (∀ p, (s p).hd = true) → t.rd ok w s x c → ∀ j, j < t.sz → ∃ v, c j = some v ∧ v.oneCell' = true := by
  intro t
  induction t with
  | int k => intro s x c _ h j hj; simp [Ty.sz] at hj; subst hj; exact ⟨_, h, rfl⟩
  | bool => intro s x c _ h j hj; simp [Ty.sz] at hj; subst hj; exact ⟨_, h, rfl⟩
  | str => intro s x c _ h j hj; simp [Ty.sz] at hj; subst hj; exact ⟨_, h, rfl⟩
  | unit => intro s x c _ h j hj; simp [Ty.sz] at hj
  | ro t ih => intro s x c _ h j hj; simp [Ty.sz] at hj; subst hj; obtain ⟨a, cap, h0, _⟩ := h; exact ⟨_, h0, rfl⟩
  | own t ih => intro s x c hs h j hj; simp [Ty.sz] at hj; subst hj; exact ⟨_, (h (hs [])).1, rfl⟩
  | ptr t ih => intro s x c hs h j hj; simp [Ty.sz] at hj; subst hj; exact ⟨_, (h (hs [])).1, rfl⟩
  | map k v ihk ihv => intro s x c hs h j hj; simp [Ty.sz] at hj; subst hj; exact ⟨_, (h (hs [])).1, rfl⟩
  | pair a b iha ihb =>
    intro s x c hs h j hj
    simp only [Ty.sz] at hj
    by_cases hja : j < a.sz
    · exact iha _ _ _ (fun p => hs _) h.1 j hja
    · obtain ⟨v, hv, h1⟩ := ihb _ _ _ (fun p => hs _) h.2 (j - a.sz) (by omega)
      have hv' : c (a.sz + (j - a.sz)) = some v := hv
      rw [show a.sz + (j - a.sz) = j from by omega] at hv'
      exact ⟨v, hv', h1⟩
  | arr n t ih =>
    intro s x c hs h j hj
    simp only [Ty.sz] at hj
    have hp : 0 < t.sz := by
      rcases Nat.eq_zero_or_pos t.sz with h0 | h0
      · rw [h0] at hj; simp at hj
      · exact h0
    have hn := h.1
    have hd : j / t.sz < n := Nat.div_lt_of_lt_mul (by rw [Nat.mul_comm]; exact hj)
    obtain ⟨v, hv, h1⟩ := ih _ _ _ (fun p => hs _) (h.2 (j / t.sz) (by omega)) (j % t.sz) (Nat.mod_lt _ hp)
    have hv' : c (j / t.sz * t.sz + j % t.sz) = some v := hv
    rw [Nat.mul_comm, Nat.div_add_mod] at hv'
    exact ⟨v, hv', h1⟩
theorem Sub.none_hd (p : List Step) : (Sub.none p).hd = true := rfl

/-! ### types as the program has them -/

def sizeT (P : Program) (t : TypeId) : Option Nat := (P.info? t).map (·.size)
def bytesT (P : Program) (t : TypeId) : Option Nat := (P.info? t).map (·.bytes)
def aggT (P : Program) (t : TypeId) : Option Bool :=
  match P.underlying t with
  | some (.struct _) => some true
  | some (.array _ _) => some true
  | some _ => some false
  | none => none

theorem run_sizeOf {P : Program} {t : TypeId} {n : Nat} (h : sizeT P t = some n) (w : World) : (sizeOf t).run P w = .ok n w := by
  unfold sizeT at h
  cases hi : P.info? t with
  | none => simp [hi] at h
  | some i => simp [hi] at h; simp [sizeOf, typeInfo, hi, h]
theorem run_isAgg {P : Program} {t : TypeId} {b : Bool} (h : aggT P t = some b) (w : World) : (isAgg t).run P w = .ok b w := by
  unfold aggT at h
  cases hu : P.underlying t with
  | none => simp [hu] at h
  | some d => simp only [hu] at h; cases d <;> simp at h <;> subst h <;> simp [isAgg, run_underlying hu]

/-- Does a type of the program have the shape of a type here? -/
def fits (P : Program) (t : TypeId) (u : Ty) : Bool := sizeT P t == some u.sz && aggT P t == some u.agg
theorem fits_size {P : Program} {t : TypeId} {u : Ty} (h : fits P t u = true) : sizeT P t = some u.sz := by simp [fits] at h; exact h.1
theorem fits_agg {P : Program} {t : TypeId} {u : Ty} (h : fits P t u = true) : aggT P t = some u.agg := by simp [fits] at h; exact h.2

theorem Ty.sz_one {t : Ty} (h : t.agg = false) : t.sz = 1 := by cases t <;> first | rfl | (simp [Ty.agg] at h)

theorem VRel.of_cells {ok : Nat → Prop} {w : World} {u : Ty} {y : u.den} {c : Nat → Option Value} (hr : u.rd ok w Sub.none y c) (hu : u.agg = true) (cs : Array Value) (hs : cs.size = u.sz)
    (hc : ∀ j, j < u.sz → cs[j]? = c j) : VRel ok w u y (.agg cs) :=
  ⟨Ty.rd_congr _ _ _ _ _ (fun j hj => (hc j hj).symm) hr, hs, by rw [hu]; rfl⟩
theorem VRel.of_cell {ok : Nat → Prop} {w : World} {u : Ty} {y : u.den} {c : Nat → Option Value} (hr : u.rd ok w Sub.none y c) (hu : u.agg = false) (v : Value) (hc : c 0 = some v) : VRel ok w u y v := by
  have h1 := Ty.sz_one hu
  have hone : Value.isAgg v = false := by
    obtain ⟨v', e, ho⟩ := Ty.rd_cell u _ y c Sub.none_hd hr 0 (by omega)
    rw [hc] at e; cases e
    cases v <;> first | rfl | (simp [Value.oneCell'] at ho)
  have hcs : v.cells = #[v] := by cases v <;> first | rfl | (simp [Value.isAgg] at hone)
  refine ⟨Ty.rd_congr _ _ _ _ _ (fun j hj => ?_) hr, by rw [hcs, h1]; rfl, by rw [hu, hone]⟩
  have : j = 0 := by omega
  subst this
  rw [hcs, hc]; rfl

theorem run_loadVar_rd {P : Program} {ok : Nat → Prop} {w : World} {t : TypeId} {u : Ty} {y : u.den} {b o : Nat} {cs : Array Value} {ty : TypeId} {fz : Nat × Nat} (hfit : fits P t u = true)
    (hh : w.heap[b]? = some (.cells cs ty fz)) (hr : u.rd ok w Sub.none y (fun j => cs[o + j]?)) :
    ∃ V, (loadVar t ⟨b, o, none⟩).run P w = .ok V w ∧ VRel ok w u y V := by
  have hcell := Ty.rd_cell u _ y _ Sub.none_hd hr
  have hagg := fits_agg hfit
  cases hu : u.agg with
  | true =>
    rw [hu] at hagg
    have hl := run_loadCells (P := P) w ⟨b, o, none⟩ u.sz (fun j => (cs[o + j]?).getD undef) (fun j hj => by
      obtain ⟨v, hv, _⟩ := hcell j hj
      have hv' : cs[o + j]? = some v := hv
      rw [add_mk]
      simp [World.cell?, hh, hv'])
    refine ⟨.agg ((List.range u.sz).map fun j => (cs[o + j]?).getD undef).toArray, ?_, ?_⟩
    · simp only [loadVar, Sem.run_bind, run_isAgg hagg, Result.andThen_ok, if_true, run_sizeOf (fits_size hfit), hl, Sem.run_pure]
    refine VRel.of_cells hr hu _ (by simp) (fun j hj => ?_)
    obtain ⟨v, hv, _⟩ := hcell j hj
    have hv' : cs[o + j]? = some v := hv
    simp [hj, hv']
  | false =>
    rw [hu] at hagg
    obtain ⟨v, hv, _⟩ := hcell 0 (by rw [Ty.sz_one hu]; omega)
    have hv' : cs[o]? = some v := by simpa using hv
    refine ⟨v, ?_, VRel.of_cell hr hu v hv⟩
    simp [loadVar, run_isAgg hagg, World.cell?, hh, hv']

theorem VRel.cells_list {ok : Nat → Prop} {w : World} {u : Ty} {y : u.den} {v : Value} (h : VRel ok w u y v) : ∀ c ∈ v.cells.toList, c.oneCell' = true := by
  intro c hc
  obtain ⟨j, hj, e⟩ := List.getElem_of_mem hc
  have hj' : j < v.cells.size := by simpa using hj
  obtain ⟨v', hv', h1⟩ := Ty.rd_cell u _ y _ Sub.none_hd h.1 j (by rw [← h.2.1]; exact hj')
  have : v.cells[j]? = some c := by
    rw [Array.getElem?_eq_getElem hj']
    congr 1
  rw [this] at hv'
  cases hv'
  exact h1

theorem run_storeVar_cells {P : Program} {w : World} {t : TypeId} {n : Nat} {v : Value} {b o : Nat} {cs : Array Value} {ty : TypeId} {fz : Nat × Nat} (hfit : sizeT P t = some n)
    (hh : w.heap[b]? = some (.cells cs ty fz)) (hf : Thawed fz cs.size) (ho : o + n ≤ cs.size) (hv : v.cells.size = n) (h1 : ∀ c ∈ v.cells.toList, c.oneCell' = true) :
    ∃ w' cs', (storeVar t ⟨b, o, none⟩ v).run P w = .ok () w' ∧ Wrote w w' b (.cells cs' ty fz) ∧ cs'.size = cs.size ∧
      (∀ j, j < o ∨ o + n ≤ j → cs'[j]? = cs[j]?) ∧ (∀ j, j < n → cs'[o + j]? = v.cells[j]?) := by
  have hl : v.cells.toList.length = n := by simpa using hv
  obtain ⟨w', e, k⟩ := run_storeCells_wrote (P := P) (b := b) (o0 := o) v.cells.toList 0 cs w hh hf (by omega) h1
  refine ⟨w', _, ?_, k, size_writeAt _ _ _, ?_, ?_⟩
  · simp only [storeVar, Sem.run_bind, run_sizeOf hfit, Result.andThen_ok]
    rw [if_neg (by simp [hv])]
    exact e
  · intro j hj
    rw [Nat.add_zero, get_writeAt _ _ _ _ (by omega), if_neg (by omega)]
  · intro j hj
    rw [Nat.add_zero, get_writeAt _ _ _ _ (by omega), if_pos (by omega)]
    simp
/-- What is loaded where the cells are there. -/
theorem run_loadVar_cells {P : Program} {w : World} {t : TypeId} {u : Ty} {b o : Nat} {cs : Array Value} {ty : TypeId} {fz : Nat × Nat} (hfit : fits P t u = true)
    (hh : w.heap[b]? = some (.cells cs ty fz)) (ho : o + u.sz ≤ cs.size) (h1 : ∀ j, j < u.sz → ∀ v, cs[o + j]? = some v → v.oneCell' = true) :
    ∃ V, (loadVar t ⟨b, o, none⟩).run P w = .ok V w ∧ V.cells.size = u.sz ∧ Value.isAgg V = u.agg ∧ ∀ j, j < u.sz → V.cells[j]? = cs[o + j]? := by
  have hagg := fits_agg hfit
  have hcell : ∀ j, j < u.sz → ∃ v, cs[o + j]? = some v := fun j hj => ⟨cs[o + j], Array.getElem?_eq_getElem (by omega)⟩
  cases hu : u.agg with
  | true =>
    rw [hu] at hagg
    have hl := run_loadCells (P := P) w ⟨b, o, none⟩ u.sz (fun j => (cs[o + j]?).getD undef) (fun j hj => by
      obtain ⟨v, hv⟩ := hcell j hj
      rw [add_mk]
      simp [World.cell?, hh, hv])
    refine ⟨.agg ((List.range u.sz).map fun j => (cs[o + j]?).getD undef).toArray, ?_, by simp [Value.cells], rfl, fun j hj => ?_⟩
    · simp only [loadVar, Sem.run_bind, run_isAgg hagg, Result.andThen_ok, if_true, run_sizeOf (fits_size hfit), hl, Sem.run_pure]
    · obtain ⟨v, hv⟩ := hcell j hj
      simp [Value.cells, hj, hv]
  | false =>
    rw [hu] at hagg
    have hs1 := Ty.sz_one hu
    obtain ⟨v, hv⟩ := hcell 0 (by omega)
    have hv' : cs[o]? = some v := by simpa using hv
    have hone := h1 0 (by omega) v hv
    have hnag : Value.isAgg v = false := by cases v <;> first | rfl | (simp [Value.oneCell'] at hone)
    have hcs : v.cells = #[v] := by cases v <;> first | rfl | (simp [Value.isAgg] at hnag)
    refine ⟨v, by simp [loadVar, run_isAgg hagg, World.cell?, hh, hv'], by rw [hcs, hs1]; rfl, hnag, fun j hj => ?_⟩
    have : j = 0 := by omega
    subst this
    rw [hcs, hv]; rfl

theorem run_storeVar_rd {P : Program} {ok : Nat → Prop} {w : World} {t : TypeId} {u : Ty} {y : u.den} {v : Value} {b o : Nat} {cs : Array Value} {ty : TypeId} {fz : Nat × Nat} (hfit : sizeT P t = some u.sz)
    (hh : w.heap[b]? = some (.cells cs ty fz)) (hf : Thawed fz cs.size) (ho : o + u.sz ≤ cs.size) (hv : VRel ok w u y v) :
    ∃ w' cs', (storeVar t ⟨b, o, none⟩ v).run P w = .ok () w' ∧ Wrote w w' b (.cells cs' ty fz) ∧ cs'.size = cs.size ∧
      (∀ j, j < o ∨ o + u.sz ≤ j → cs'[j]? = cs[j]?) ∧ (∀ j, j < u.sz → cs'[o + j]? = v.cells[j]?) := by
  have hl : v.cells.toList.length = u.sz := by simpa using hv.2.1
  obtain ⟨w', e, k⟩ := run_storeCells_wrote (P := P) (b := b) (o0 := o) v.cells.toList 0 cs w hh hf (by omega) hv.cells_list
  refine ⟨w', _, ?_, k, size_writeAt _ _ _, ?_, ?_⟩
  · simp only [storeVar, Sem.run_bind, run_sizeOf hfit, Result.andThen_ok]
    rw [if_neg (by simp [hv.2.1])]
    exact e
  · intro j hj
    rw [Nat.add_zero, get_writeAt _ _ _ _ (by omega), if_neg (by omega)]
  · intro j hj
    rw [Nat.add_zero, get_writeAt _ _ _ _ (by omega), if_pos (by omega)]
    simp

end Go.Lift
/- Places in regions; loads and stores: abstract, and that they tell what the machine does. -/
namespace Go.Lift
open Go

inductive EffI where
  | set (old : Option Nat) (n : Nat) (g : Reg)
  | del (r : Nat)
abbrev Eff := List EffI
def EffI.app (rs : Regs) : EffI → Regs
  | .set old n g => upd (without rs old) n (some g)
  | .del r => drop rs r
def Eff.app (rs : Regs) : Eff → Regs
  | [] => rs
  | e :: es => Eff.app (e.app rs) es

def FreshN (cx : Cx) (st : St) (n : Nat) : Prop := Fresh st n ∧ ∀ l, (n, l) ∉ cx.io

/-- Some regions are given up. -/
theorem RelF.fewer {cx : Cx} {φ : Phi} {st : St} {a : Act} {w : World} (R : RelF cx φ st a w) {rs' : Regs} (hlk : ∀ s g, look rs' s = some g → look st.regs s = some g) : RelF cx φ { st with regs := rs' } a w := by
  have L := R.lay
  have hm : ∀ b o, okOf st.regs φ b → w.heap[b]? = some o → okOf rs' φ b ∧ w.heap[b]? = some o := fun b o h1 h2 => ⟨⟨fun s g hs => h1.1 s g (hlk s g hs), h1.2⟩, h2⟩
  refine R.change hm (fun s g hg _ => ⟨.rfl' _, g, hlk s g hg, .refl g⟩) ?_ (Kept.refl _ _ _) rfl
  exact ⟨fun s g hs => Reg.at_mono hm (fun _ _ => rfl) (fun _ _ _ _ => rfl) (L.rg s g (hlk s g hs)), fun s g h => L.inj s g (hlk s g h),
    fun s s' g g' b h1 h2 h3 h4 => L.sep s s' g g' b (hlk _ _ h1) (hlk _ _ h2) h3 h4, fun s g b h => L.al s g b (hlk s g h), fun s g b h1 h2 => L.fr s g b (hlk _ _ h1) h2,
    fun s l h1 h2 => L.io s l h1 (by obtain ⟨g, hg⟩ := Option.isSome_iff_exists.1 h2; rw [hlk _ _ hg]; rfl),
    fun s g h p m hpm hp gm hgm => L.hl s g (hlk s g h) p m hpm hp gm (hlk m gm hgm), fun s g h => L.told s g (hlk s g h), fun s g h => L.ht s g (hlk s g h)⟩
theorem RelF.del {cx : Cx} {φ : Phi} {st : St} {a : Act} {w : World} (R : RelF cx φ st a w) (r : Nat) : RelF cx φ { st with regs := drop st.regs r } a w :=
  R.fewer fun s g h => by rw [look_drop] at h; split at h; · cases h
                          · exact h

def dels (rs : Regs) : List Nat → Regs
  | [] => rs
  | r :: l => dels (drop rs r) l
theorem RelF.dels {cx : Cx} {φ : Phi} {a : Act} {w : World} : ∀ (l : List Nat) {st : St}, RelF cx φ st a w → RelF cx φ { st with regs := dels st.regs l } a w
  | [], _, R => R
  | r :: l, _, R => RelF.dels l (R.del r)
theorem look_dels : ∀ (l : List Nat) (rs : Regs) (s : Nat), look (dels rs l) s = if s ∈ l then none else look rs s
  | [], rs, s => by simp [dels]
  | r :: l, rs, s => by
    simp only [dels, look_dels l, look_drop, List.mem_cons]
    by_cases h : s ∈ l
    · simp [h]
    · by_cases h2 : r = s
      · simp [h2]
      · simp [h, h2, Ne.symm h2]
theorem look_dels_some {l : List Nat} {rs : Regs} {s : Nat} {g : Reg} (h : look (dels rs l) s = some g) : s ∉ l ∧ look rs s = some g := by
  rw [look_dels] at h
  split at h
  · cases h
  · exact ⟨‹_›, h⟩

/-! ### places of regions -/
def offR (l : Sub) : Reg → List Step → Nat
  | .row t _ _, .idx i :: p => l.off + i.toNat * t.sz + poff t p
  | .box t _ _, p => poff t p
  | .obox t _ _, p => poff t p
  | _, _ => 0
theorem cellR_off {w : World} {l : Sub} {g : Reg} {p : List Step} {u : Ty} (hc : g.isCells = true) (h : ptyR g p = some u) : cellR w l g p = cellAt w l.blk (offR l g p) := by
  cases g with
  | row t xs H =>
    cases p with
    | nil => cases h
    | cons s p => cases s <;> first | rfl | cases h
  | box t x H => cases p <;> rfl
  | obox t o H => cases p <;> rfl
  | mp k v o H => cases hc
/-- What a place holds. -/
def getR (g : Reg) (p : List Step) (u : Ty) : Option u.den :=
  match g with
  | .row t xs _ => match p with
    | .idx i :: p => pget t (xs.getD i.toNat t.dflt) p u
    | _ => none
  | .box t x _ => pget t x p u
  | .obox t o _ => pget t (o.getD t.dflt) p u
  | .mp _ _ _ _ => none
/-- The region, the place set, what is open anew. -/
def setR (g : Reg) (p : List Step) (u : Ty) (y : u.den) (H : Holes) : Option Reg :=
  match g with
  | .row t xs _ => match p with
    | .idx i :: p => (pset t (xs.getD i.toNat t.dflt) p u y).map fun z => .row t (xs.set i.toNat z) H
    | _ => none
  | .box t x _ => (pset t x p u y).map fun z => .box t z H
  | .obox t o _ => (pset t (o.getD t.dflt) p u y).map fun z => .obox t (o.map fun _ => z) H
  | .mp _ _ _ _ => none
theorem setR_pty {g : Reg} {p : List Step} {u : Ty} {y : u.den} {H : Holes} {g' : Reg} (h : setR g p u y H = some g') : ptyR g p = some u ∧ SameKind g g' ∧ g'.holes = H ∧ g'.base = g.base ∧ g'.isCells = true ∧ g.isCells = true ∧
    (∀ q, pokR g' q ↔ pokR g q) ∧ (∀ q, ptyR g' q = ptyR g q) ∧ (∀ l q, offR l g' q = offR l g q) := by
  cases g with
  | row t xs H0 =>
    cases p with
    | nil => cases h
    | cons s p =>
      cases s <;> try (cases h; done)
      simp only [setR, Option.map_eq_some_iff] at h
      obtain ⟨z, hz, rfl⟩ := h
      refine ⟨pset_pty _ _ _ _ _ _ hz, ⟨rfl, by simp⟩, rfl, rfl, rfl, rfl, fun q => ?_, fun q => ?_, fun l q => ?_⟩
      · cases q with
        | nil => exact Iff.rfl
        | cons a q => cases a <;> first | exact Iff.rfl | simp [pokR]
      · cases q with
        | nil => rfl
        | cons a q => cases a <;> rfl
      · cases q with
        | nil => rfl
        | cons a q => cases a <;> rfl
  | box t x H0 =>
    simp only [setR, Option.map_eq_some_iff] at h
    obtain ⟨z, hz, rfl⟩ := h
    refine ⟨pset_pty _ _ _ _ _ _ hz, rfl, rfl, rfl, rfl, rfl, fun q => ?_, fun q => ?_, fun l q => ?_⟩ <;> cases q <;> first | exact Iff.rfl | rfl
  | obox t o H0 =>
    simp only [setR, Option.map_eq_some_iff] at h
    obtain ⟨z, hz, rfl⟩ := h
    refine ⟨pset_pty _ _ _ _ _ _ hz, ?_, rfl, rfl, rfl, rfl, fun q => ?_, fun q => ?_, fun l q => ?_⟩
    · cases o <;> exact ⟨rfl, rfl⟩
    · cases o <;> simp [pokR]
    · cases q <;> rfl
    · cases q <;> rfl
  | mp k v o H => cases h

theorem Sub.put_root (s s' : Sub) (a : Step) (p : List Step) : (s.put (a :: p) s') [] = s [] := by simp [Sub.put, after]
theorem base_append (g : Reg) (p : List Step) (u : Ty) (h : ptyR g p = some u) (hc : g.isCells = true) : ∃ a q, g.base ++ p = a :: q := by
  cases g with
  | row t xs H =>
    cases p with
    | nil => cases h
    | cons a p => exact ⟨a, p, rfl⟩
  | box t x H => exact ⟨.deref, p, rfl⟩
  | obox t x H => exact ⟨.deref, p, rfl⟩
  | mp _ _ _ _ => cases hc
theorem Sub.put_same {s s' : Sub} {P : List Step} (h : P ≠ []) : s.same (s.put P s') := by
  cases P with
  | nil => exact (h rfl).elim
  | cons a p => exact ⟨by simp [Sub.blk, Sub.put_root], by simp [Sub.off, Sub.put_root], by simp [Sub.cap, Sub.put_root]⟩

theorem getD_get {α : Type} {xs : List α} {i : Nat} (d : α) (h : i < xs.length) : xs.getD i d = xs[i] := by simp [List.getD, List.getElem?_eq_getElem h]

/-- A place is there: its cells, what they read as, what they read as when they are written. -/
theorem place_of {ok : Nat → Prop} {w : World} {l : Sub} {g : Reg} {p : List Step} {u : Ty} (hat : g.at ok w l) (hp : pokR g p) (ht : ptyR g p = some u) (hc : g.isCells = true) :
    ∃ b cs ty fz, l.blk = some b ∧ w.heap[b]? = some (.cells cs ty fz) ∧ Thawed fz cs.size ∧ offR l g p + u.sz ≤ cs.size ∧
      (∀ y, getR g p u = some y → u.rd ok w (l.at (g.base ++ p)) y (fun j => cs[offR l g p + j]?)) ∧
      ∀ (w' : World) (cs' : Array Value) (s' : Sub) (y : u.den) (H : Holes) (g' : Reg) (c' : Nat → Option Value), setR g p u y H = some g' → w'.heap[b]? = some (.cells cs' ty fz) → cs'.size = cs.size →
        (∀ j, j < offR l g p ∨ offR l g p + u.sz ≤ j → cs'[j]? = cs[j]?) → u.rd ok w s' y c' → (∀ j, j < u.sz → cs'[offR l g p + j]? = c' j) → g'.at2 ok w w' (l.put (g.base ++ p) s') := by
  have box : ∀ (t : Ty) (x : t.den), boxC ok w w t l x → pok t p → pty t p = some u →
      ∃ b cs ty fz, l.blk = some b ∧ w.heap[b]? = some (.cells cs ty fz) ∧ Thawed fz cs.size ∧ poff t p + u.sz ≤ cs.size ∧
      (∀ y, pget t x p u = some y → u.rd ok w (l.at (.deref :: p)) y (fun j => cs[poff t p + j]?)) ∧
      ∀ (w' : World) (cs' : Array Value) (s' : Sub) (y : u.den) (x' : t.den) (c' : Nat → Option Value), pset t x p u y = some x' → w'.heap[b]? = some (.cells cs' ty fz) → cs'.size = cs.size →
        (∀ j, j < poff t p ∨ poff t p + u.sz ≤ j → cs'[j]? = cs[j]?) → u.rd ok w s' y c' → (∀ j, j < u.sz → cs'[poff t p + j]? = c' j) → boxC ok w w' t (l.put (.deref :: p) s') x' := by
    intro t x hx hp ht
    obtain ⟨f0, b, cs, ty, fz, f1, f2, f3, f4, f5⟩ := hx
    have hb := poff_le p t u hp ht
    refine ⟨b, cs, ty, fz, f1, f2, f3, by omega, fun y hy => ?_, fun w' cs' s' y x' c' hs hh hsz ho hr hc => ?_⟩
    · have := rd_pget p t _ x _ u y f5 hp hy
      rwa [Sub.at_at] at this
    · refine ⟨by rw [Sub.put_root]; exact f0, b, cs', ty, fz, by rw [Sub.put_root]; exact f1, hh, by rw [hsz]; exact f3, by rw [hsz]; exact f4, ?_⟩
      rw [Sub.put_cons_at]
      exact rd_pset' p t _ s' x _ _ u y x' c' f5 hp hs hr ho hc
  cases g with
  | mp _ _ _ _ => cases hc
  | box t x H0 =>
    obtain ⟨b, cs, ty, fz, h1, h2, h3, h4, h5, h6⟩ := box t x hat hp ht
    refine ⟨b, cs, ty, fz, h1, h2, h3, h4, h5, fun w' cs' s' y H g' c' hs => ?_⟩
    simp only [setR, Option.map_eq_some_iff] at hs
    obtain ⟨z, hz, rfl⟩ := hs
    exact h6 w' cs' s' y z c' hz
  | obox t o H0 =>
    obtain ⟨ho, hp⟩ := hp
    cases o with
    | none => cases ho
    | some x =>
      obtain ⟨b, cs, ty, fz, h1, h2, h3, h4, h5, h6⟩ := box t x hat hp ht
      refine ⟨b, cs, ty, fz, h1, h2, h3, h4, h5, fun w' cs' s' y H g' c' hs => ?_⟩
      simp only [setR, Option.map_eq_some_iff] at hs
      obtain ⟨z, hz, rfl⟩ := hs
      exact h6 w' cs' s' y z c' hz
  | row t xs H0 =>
    cases p with
    | nil => cases ht
    | cons a p =>
      cases a <;> try (cases ht; done)
      rename_i i
      obtain ⟨e1, e2, e3⟩ := hp
      obtain ⟨hcap, h2⟩ := hat
      have hi : i.toNat < xs.length := by omega
      have hii : ((i.toNat : Nat) : Int) = i := by omega
      cases hbl : (l []).blk with
      | none =>
        simp only [hbl] at h2
        omega
      | some b =>
        simp only [hbl] at h2
        obtain ⟨cs, ty, fz, f1, f2, f3, f4⟩ := h2
        have hb := poff_le p t u e3 ht
        have hfit : (l []).off + i.toNat * t.sz + poff t p + u.sz ≤ cs.size := by
          have h3 : (i.toNat + 1) * t.sz ≤ (l []).cap * t.sz := Nat.mul_le_mul_right _ (by omega)
          rw [Nat.add_mul] at h3
          omega
        have f4i := f4 i.toNat hi
        rw [hii] at f4i
        refine ⟨b, cs, ty, fz, hbl, f1, f2, hfit, fun y hy => ?_, fun w' cs' s' y H g' c' hs hh hsz ho hr hc => ?_⟩
        · simp only [getR, getD_get _ hi] at hy
          have := rd_pget p t _ _ _ u y f4i e3 hy
          rw [Sub.at_at] at this
          simp only [offR, Sub.off, Reg.base, List.nil_append]
          simpa only [← Nat.add_assoc, List.cons_append, List.nil_append] using this
        · simp only [setR, getD_get _ hi, Option.map_eq_some_iff] at hs
          obtain ⟨z, hz, rfl⟩ := hs
          refine ⟨by simpa [Reg.base, Sub.put_root] using hcap, ?_⟩
          simp only [Reg.base, List.nil_append, Sub.put_root, hbl]
          refine ⟨cs', ty, fz, hh, by rw [hsz]; exact f2, by rw [hsz]; exact f3, fun k hk => ?_⟩
          have hk' : k < xs.length := by simpa using hk
          simp only [offR, Sub.off] at ho hc
          by_cases hki : k = i.toNat
          · subst hki
            have : (xs.set i.toNat z)[i.toNat]'hk = z := by simp
            rw [this, hii, Sub.put_cons_at]
            refine rd_pset' p t _ s' _ _ _ u y z _ f4i e3 hz hr (fun j hj => ho _ (by omega)) (fun j hj => ?_)
            have := hc j hj
            simpa only [Nat.add_assoc] using this
          · have : (xs.set i.toNat z)[k]'hk = xs[k] := by rw [List.getElem_set_ne (by omega)]
            rw [this, Sub.put_cons_ne _ _ (by intro e; cases e; simp at hki)]
            refine Ty.rd_congr _ _ _ _ _ (fun j hj => (ho _ ?_).symm) (f4 k hk')
            rcases Nat.lt_or_gt_of_ne hki with hlt | hgt
            · left
              have h5 : (k + 1) * t.sz ≤ i.toNat * t.sz := Nat.mul_le_mul_right _ hlt
              rw [Nat.add_mul] at h5
              omega
            · right
              have h5 : (i.toNat + 1) * t.sz ≤ k * t.sz := Nat.mul_le_mul_right _ hgt
              rw [Nat.add_mul] at h5
              omega

/-- What an address tells of its place. -/
theorem addr_place {φ : Phi} {r : Nat} {p : List Step} {v : Value} {g : Reg} (h : addrRel φ r p v g) (hp : p ≠ [] ∨ ∀ t o H, g ≠ .obox t o H) :
    pokR g p ∧ g.isCells = true ∧ ∃ b, (φ r).blk = some b ∧ v = .pointer (some ⟨b, offR (φ r) g p, none⟩) := by
  cases g with
  | row t xs H =>
    obtain ⟨i, p', b, rfl, h1, h2, h3, h4, h5⟩ := h
    exact ⟨⟨h1, h2, h3⟩, rfl, b, h4, h5⟩
  | box t x H =>
    obtain ⟨b, h1, h2, h3⟩ := h
    exact ⟨h2, rfl, b, h1, h3⟩
  | obox t o H =>
    rcases h with ⟨h1, _⟩ | ⟨b, h0, h1, h2, h3⟩
    · rcases hp with hp | hp
      · exact (hp h1).elim
      · exact (hp _ _ _ rfl).elim
    · exact ⟨⟨h0, h2⟩, rfl, b, h1, h3⟩
  | mp _ _ _ _ => exact h.elim

/-! ### paths compared -/
def Step.sameK : Step → Step → Bool
  | .fst, .fst => true
  | .snd, .snd => true
  | .idx _, .idx _ => true
  | .deref, .deref => true
  | .key _, .key _ => true
  | _, _ => false
/-- May p lead to q? -/
def shapePre : List Step → List Step → Bool
  | [], _ => true
  | a :: p, b :: q => a.sameK b && shapePre p q
  | _ :: _, [] => false
/-- Why it does. -/
def preVC : List Step → List Step → List Prop
  | .idx i :: p, .idx j :: q => (i = j) :: preVC p q
  | .key i :: p, .key j :: q => (i = j) :: preVC p q
  | _ :: p, _ :: q => preVC p q
  | _, _ => []
theorem after_of_pre : ∀ {p q : List Step}, shapePre p q = true → (∀ P ∈ preVC p q, P) → ∃ r, q = p ++ r
  | [], q, _, _ => ⟨q, rfl⟩
  | _ :: _, [], h, _ => by simp [shapePre] at h
  | a :: p, b :: q, h, hv => by
    simp only [shapePre, Bool.and_eq_true] at h
    have hab : a = b ∧ ∀ P ∈ preVC p q, P := by
      cases a <;> cases b <;> first | (simp [Step.sameK] at h; done) | exact ⟨rfl, hv⟩ | skip
      · exact ⟨by rw [hv _ (List.mem_cons_self ..)], fun P hP => hv P (List.mem_cons_of_mem _ hP)⟩
      · exact ⟨by rw [hv _ (List.mem_cons_self ..)], fun P hP => hv P (List.mem_cons_of_mem _ hP)⟩
    obtain ⟨rfl, hv'⟩ := hab
    obtain ⟨r, rfl⟩ := after_of_pre h.2 hv'
    exact ⟨r, rfl⟩
theorem Step.sameK_refl (a : Step) : a.sameK a = true := by cases a <;> rfl
theorem shapePre_app : ∀ (p r : List Step), shapePre p (p ++ r) = true
  | [], _ => rfl
  | a :: p, r => by simp [shapePre, Step.sameK_refl, shapePre_app p r]
def sameShape (p q : List Step) : Bool := shapePre p q && shapePre q p
theorem sameShape_refl (p : List Step) : sameShape p p = true := by
  have := shapePre_app p []
  rw [List.append_nil] at this
  simp [sameShape, this]
theorem shape_len : ∀ {p q : List Step}, shapePre p q = true → p.length ≤ q.length
  | [], _, _ => Nat.zero_le _
  | _ :: _, [], h => by simp [shapePre] at h
  | a :: p, b :: q, h => by
    simp only [shapePre, Bool.and_eq_true] at h
    have := shape_len h.2
    simp only [List.length_cons]; omega
theorem eq_of_same {p q : List Step} (h : sameShape p q = true) (hv : ∀ P ∈ preVC p q, P) : p = q := by
  simp only [sameShape, Bool.and_eq_true] at h
  obtain ⟨r, rfl⟩ := after_of_pre h.1 hv
  have := shape_len h.2
  simp only [List.length_append] at this
  have : r = [] := List.length_eq_zero_iff.1 (by omega)
  simp [this]

/-- What lies beside a place that has nothing open in it. -/
theorem beside : ∀ (p q : List Step) (t u v : Ty), pok t p → pok t q → pty t p = some u → pty t q = some v → v.link = true → (∀ r, q ≠ p ++ r) → poff t q < poff t p ∨ poff t p + u.sz ≤ poff t q := by
  intro p
  induction p with
  | nil => intro q t u v _ _ _ _ _ h; exact (h q rfl).elim
  | cons a p ih =>
    intro q t u v hp hq hpt hqt hv h
    cases q with
    | nil =>
      simp only [pty, Option.some.injEq] at hqt
      subst hqt
      cases t <;> cases a <;> simp [Ty.link] at hv <;> simp [pty] at hpt
    | cons c q =>
      cases t <;> cases a <;> cases c <;> simp only [pty, pok, poff] at hp hq hpt hqt ⊢ <;> try (cases hpt; done)
      all_goals try (cases hqt; done)
      · exact ih q _ u v hp hq hpt hqt hv fun r e => h r (by rw [e]; rfl)
      · have := poff_le p _ u hp hpt; omega
      · have h1 := poff_le q _ v hq hqt
        have h2 : v.sz = 1 := by cases v <;> first | rfl | cases hv
        omega
      · have := ih q _ u v hp hq hpt hqt hv fun r e => h r (by rw [e]; rfl)
        omega
      · rename_i n t i j
        obtain ⟨a1, a2, a3⟩ := hp
        obtain ⟨b1, b2, b3⟩ := hq
        by_cases hij : i = j
        · subst hij
          have := ih q _ u v a3 b3 hpt hqt hv fun r e => h r (by rw [e]; rfl)
          omega
        · have h1 := poff_le p _ u a3 hpt
          have h2 := poff_le q _ v b3 hqt
          have h3 : v.sz = 1 := by cases v <;> first | rfl | cases hv
          rcases Int.lt_or_gt_of_ne hij with hlt | hgt
          · right
            have h5 : (i.toNat + 1) * t.sz ≤ j.toNat * t.sz := Nat.mul_le_mul_right _ (by omega)
            rw [Nat.add_mul] at h5
            omega
          · left
            have h5 : (j.toNat + 1) * t.sz ≤ i.toNat * t.sz := Nat.mul_le_mul_right _ (by omega)
            rw [Nat.add_mul] at h5
            omega
theorem besideR {g : Reg} {l : Sub} {p q : List Step} {u v : Ty} (hc : g.isCells = true) (hp : pokR g p) (hq : pokR g q) (hpt : ptyR g p = some u) (hqt : ptyR g q = some v) (hv : v.link = true) (h : ∀ r, q ≠ p ++ r) :
    offR l g q < offR l g p ∨ offR l g p + u.sz ≤ offR l g q := by
  cases g with
  | mp _ _ _ _ => cases hc
  | box t x H => exact beside p q t u v hp hq hpt hqt hv h
  | obox t x H => exact beside p q t u v hp.2 hq.2 hpt hqt hv h
  | row t xs H =>
    have key := beside p q (.arr xs.length t) u v
    cases p with
    | nil => cases hpt
    | cons a p =>
      cases a <;> try (cases hpt; done)
      cases q with
      | nil => cases hqt
      | cons c q =>
        cases c <;> try (cases hqt; done)
        have := key hp hq hpt hqt hv h
        simp only [poff] at this
        simp only [offR]
        omega
/-- A plain place has nothing open in it. -/
theorem plain_link : ∀ (p : List Step) (t v : Ty), t.plain = true → pty t p = some v → v.link = false := by
  intro p
  induction p with
  | nil => intro t v h ht; simp only [pty, Option.some.injEq] at ht; subst ht; cases t <;> first | rfl | cases h
  | cons a p ih =>
    intro t v h ht
    cases t <;> cases a <;> simp only [pty] at ht <;> try (cases ht; done)
    · simp only [Ty.plain, Bool.and_eq_true] at h; exact ih _ _ h.1 ht
    · simp only [Ty.plain, Bool.and_eq_true] at h; exact ih _ _ h.2 ht
    · exact ih _ _ (by simpa [Ty.plain] using h) ht
theorem pty_app : ∀ (p : List Step) (t u : Ty) (q : List Step), pty t p = some u → pty t (p ++ q) = pty u q := by
  intro p
  induction p with
  | nil => intro t u q h; simp only [pty, Option.some.injEq] at h; subst h; rfl
  | cons a p ih =>
    intro t u q h
    cases t <;> cases a <;> simp only [pty, List.cons_append] at h ⊢ <;> first | exact ih _ _ _ h | cases h
theorem poff_app : ∀ (p : List Step) (t u : Ty) (q : List Step), pty t p = some u → poff t (p ++ q) = poff t p + poff u q := by
  intro p
  induction p with
  | nil => intro t u q h; simp only [pty, Option.some.injEq] at h; subst h; simp [poff]
  | cons a p ih =>
    intro t u q h
    cases t <;> cases a <;> simp only [pty, List.cons_append, poff] at h ⊢ <;> first | (cases h; done) | (rw [ih _ _ _ h]; try omega)
theorem pok_app : ∀ (p : List Step) (t u : Ty) (q : List Step), pty t p = some u → (pok t (p ++ q) ↔ pok t p ∧ pok u q) := by
  intro p
  induction p with
  | nil => intro t u q h; simp only [pty, Option.some.injEq] at h; subst h; simp [pok]
  | cons a p ih =>
    intro t u q h
    cases t <;> cases a <;> simp only [pty, List.cons_append, pok] at h ⊢ <;> first | (cases h; done) | exact ih _ _ _ h | skip
    rw [ih _ _ _ h]; simp only [and_assoc]
theorem ptyR_app {g : Reg} {p q : List Step} {u : Ty} (hc : g.isCells = true) (h : ptyR g p = some u) : ptyR g (p ++ q) = pty u q := by
  cases g with
  | mp _ _ _ _ => cases hc
  | box t x H => exact pty_app p t u q h
  | obox t x H => exact pty_app p t u q h
  | row t xs H =>
    cases p with
    | nil => cases h
    | cons a p => cases a <;> first | exact pty_app p t u q h | cases h
theorem pokR_app {g : Reg} {p q : List Step} {u : Ty} (hc : g.isCells = true) (h : ptyR g p = some u) : pokR g (p ++ q) ↔ pokR g p ∧ pok u q := by
  cases g with
  | mp _ _ _ _ => cases hc
  | box t x H => exact pok_app p t u q h
  | obox t x H => simp only [pokR]; rw [pok_app p t u q h, and_assoc]
  | row t xs H =>
    cases p with
    | nil => cases h
    | cons a p =>
      cases a <;> try (cases h; done)
      simp only [pokR, List.cons_append]
      rw [pok_app p t u q h]; simp only [and_assoc]
theorem offR_app {g : Reg} {l : Sub} {p q : List Step} {u : Ty} (hc : g.isCells = true) (h : ptyR g p = some u) : offR l g (p ++ q) = offR l g p + poff u q := by
  cases g with
  | mp _ _ _ _ => cases hc
  | box t x H => exact poff_app p t u q h
  | obox t x H => exact poff_app p t u q h
  | row t xs H =>
    cases p with
    | nil => cases h
    | cons a p =>
      cases a <;> try (cases h; done)
      simp only [offR, List.cons_append]
      rw [poff_app p t u q h]; omega

/-! ### a value for a place -/
def linkOf (rs : Regs) (r : Nat) (t : Ty) : Option (t.den × List Nat × Holes) :=
  match t with
  | .own τ => match look rs r with
    | some (.row τ' _ _) => if τ' = τ then some (([] : List τ.den), [], [([], r)]) else none
    | _ => none
  | .ptr τ => match look rs r with
    | some (.box τ' _ _) => if τ' = τ then some ((none : Option τ.den), [], [([], r)]) else none
    | some (.obox τ' _ _) => if τ' = τ then some ((none : Option τ.den), [], [([], r)]) else none
    | _ => none
  | .map k v => match look rs r with
    | some (.mp k' v' _ _) => if k' = k ∧ v' = v then some ((none : Option (List (k.den × v.den))), [], [([], r)]) else none
    | _ => none
  | _ => none
def Reg.fitsL : Reg → Ty → Bool
  | .row _ _ _, .own _ => true
  | .box _ _ _, .ptr _ => true
  | .obox _ _ _, .ptr _ => true
  | .mp _ _ _ _, .map _ _ => true
  | _, _ => false
/-- A simple value as one of a type; what it takes with it; what lies in it. -/
def toVal (rs : Regs) (v : SV) (t : Ty) : Option (t.den × List Nat × Holes) :=
  match v with
  | .val u y => (castTy u t y).map fun z => (z, [], [])
  | .nilsl => match t with
    | .ro τ => some (([] : List τ.den), [], [])
    | .own τ => some (([] : List τ.den), [], [])
    | _ => none
  | .nilp => match t with
    | .ptr τ => some ((none : Option τ.den), [], [])
    | _ => none
  | .sl r => match t with
    | .ro τ => match look rs r with
      | some (.row τ' xs []) => if τ'.plain = true then (castTy (.ro τ') (.ro τ) xs).map fun z => (z, [r], []) else none
      | _ => none
    | .own τ => linkOf rs r (.own τ)
    | _ => none
  | .addr r [] => match t with
    | .ptr τ => linkOf rs r (.ptr τ)
    | _ => none
  | .mp r => match t with
    | .map k v => linkOf rs r (.map k v)
    | _ => none
  | .nst u y H => (castTy u t y).map fun z => (z, [], H)
  | _ => none

theorem row_val {cx : Cx} {φ : Phi} {rs : Regs} {w : World} (L : Lay cx φ rs w) {r : Nat} {τ : Ty} {xs : List τ.den} {H : Holes} (h : look rs r = some (.row τ xs H)) (hpl : τ.plain = true) (ok : Nat → Prop)
    (hok : ∀ b, okOf rs φ b → ok b) (hb : ∀ b, (φ r).blk = some b → ok b) : VRel ok w (.ro τ) xs (.slice (φ r).addr xs.length (φ r).cap) := by
  have hg := L.rg r _ h
  refine ⟨⟨(φ r).addr, (φ r).cap, rfl, hg.1, ?_⟩, rfl, rfl⟩
  have h2 := hg.2
  cases hbl : ((φ r) []).blk with
  | none =>
    simp only [hbl] at h2
    left
    have := hg.1
    rw [h2] at this
    exact List.length_eq_zero_iff.1 (by omega)
  | some b =>
    simp only [hbl] at h2
    obtain ⟨cs, ty, fz, e1, e2, e3, e4⟩ := h2
    right
    exact ⟨b, (φ r).off, cs, ty, fz, by simp [Sub.addr, Sub.blk, hbl], hb b hbl, e1, fun i hi => Ty.rd_mono (fun b o h1 h2 => ⟨hok b h1, h2⟩) _ _ _ (Ty.rd_plain _ _ _ _ _ hpl (e4 i hi))⟩

theorem hdr_one (l : Sub) (g : Reg) : (hdr l g).oneCell' = true ∧ Value.isAgg (hdr l g) = false ∧ (hdr l g).cells = #[hdr l g] := by
  cases g <;> exact ⟨rfl, rfl, rfl⟩
theorem link_sz {t : Ty} (h : t.link = true) : t.sz = 1 ∧ t.agg = false ∧ t.plain = false := by cases t <;> first | exact ⟨rfl, rfl, rfl⟩ | cases h
theorem rd_open {ok : Nat → Prop} {w : World} {t : Ty} {x : t.den} {s : Sub} {c : Nat → Option Value} (ht : t.link = true) (h : (s []).hd = false) : t.rd ok w s x c := by
  cases t <;> first | (cases ht; done) | (intro hd; rw [h] at hd; cases hd)

/-- A region's header as a value. -/
theorem linkOf_sound {rs : Regs} {φ : Phi} {ok : Nat → Prop} {w : World} {r : Nat} {t : Ty} {y : t.den} {l : List Nat} {H : Holes} {V : Value}
    (h : linkOf rs r t = some (y, l, H)) (hv : ∀ g, look rs r = some g → g.fitsL t = true → V = hdr (φ r) g) : l = [] ∧ H = [([], r)] ∧ NRel rs φ ok w t y H V := by
  have key : ∀ (y : t.den) g, look rs r = some g → g.fitsL t = true → t.link = true → NRel rs φ ok w t y [([], r)] V := by
    intro y g hg hf ht
    have hV := hv g hg hf
    obtain ⟨e1, e2, e3⟩ := hdr_one (φ r) g
    obtain ⟨s1, s2, s3⟩ := link_sz ht
    refine ⟨rd_open ht (by simp [hsub]), by rw [hV, e3, s1]; rfl, by rw [hV, e2, s2], ?_, fun p m hm => ?_⟩
    · intro c hc
      rw [hV, e3] at hc
      simp only [List.mem_singleton] at hc
      rw [hc]; exact e1
    · simp only [List.mem_singleton, Prod.mk.injEq] at hm
      obtain ⟨rfl, rfl⟩ := hm
      refine ⟨by simp [pok], fun g' hg' => ?_⟩
      rw [hg] at hg'; cases hg'
      rw [hV, e3]; simp [poff]
  unfold linkOf at h
  split at h
  · split at h
    · rename_i h1
      split at h
      · cases h; exact ⟨rfl, rfl, key _ _ h1 rfl rfl⟩
      · cases h
    · cases h
  · split at h
    · rename_i h1
      split at h
      · cases h; exact ⟨rfl, rfl, key _ _ h1 rfl rfl⟩
      · cases h
    · rename_i h1
      split at h
      · cases h; exact ⟨rfl, rfl, key _ _ h1 rfl rfl⟩
      · cases h
    · cases h
  · split at h
    · rename_i h1
      split at h
      · cases h; exact ⟨rfl, rfl, key _ _ h1 rfl rfl⟩
      · cases h
    · cases h
  · cases h

theorem NRel.of_val {rs : Regs} {φ : Phi} {ok : Nat → Prop} {w : World} {t : Ty} {x : t.den} {v : Value} (h : VRel ok w t x v) : NRel rs φ ok w t x [] v := by
  refine ⟨by rw [hsub_nil]; exact h.1, h.2.1, h.2.2, h.cells_list, fun p m hm => by cases hm⟩
theorem NRel.val {rs : Regs} {φ : Phi} {ok : Nat → Prop} {w : World} {t : Ty} {x : t.den} {v : Value} (h : NRel rs φ ok w t x [] v) : VRel ok w t x v := ⟨by have := h.1; rwa [hsub_nil] at this, h.2.1, h.2.2.1⟩

theorem toVal_sound {cx : Cx} {φ : Phi} {st : St} {a : Act} {w : World} (R : RelF cx φ st a w) {v : SV} {t : Ty} {y : t.den} {l : List Nat} {H : Holes} {V : Value}
    (h : toVal st.regs v t = some (y, l, H)) (hv : SVRel st.regs φ (okOf st.regs φ) w v V) : NRel (dels st.regs l) φ (okOf (dels st.regs l) φ) w t y H V ∧ (l = [] ∨ H = []) := by
  have L := R.lay
  unfold toVal at h
  split at h
  · rename_i u z
    rw [Option.map_eq_some_iff] at h
    obtain ⟨z', hz, e⟩ := h
    cases e
    obtain ⟨e1, e2⟩ := castTy_some hz
    subst e1; subst e2
    exact ⟨.of_val hv, .inl rfl⟩
  · have hv' : V = .slice none 0 0 := hv
    subst hv'
    split at h
    · cases h
      exact ⟨.of_val ⟨⟨none, 0, rfl, Nat.le_refl _, .inl rfl⟩, rfl, rfl⟩, .inl rfl⟩
    · cases h
      exact ⟨.of_val ⟨fun _ => ⟨rfl, Nat.le_refl _, rfl⟩, rfl, rfl⟩, .inl rfl⟩
    · cases h
  · have hv' : V = .pointer none := hv
    subst hv'
    split at h
    · cases h
      exact ⟨.of_val ⟨fun _ => ⟨rfl, rfl⟩, rfl, rfl⟩, .inl rfl⟩
    · cases h
  · rename_i r
    split at h
    · rename_i τ
      split at h
      · rename_i τ' xs hl
        split at h
        · rename_i hpl
          rw [Option.map_eq_some_iff] at h
          obtain ⟨z', hz, e⟩ := h
          cases e
          obtain ⟨e1, e2⟩ := castTy_some hz
          cases e1
          subst e2
          have hV : V = _ := hv _ _ _ hl
          subst hV
          refine ⟨.of_val (row_val L hl hpl _ (fun b hb => ⟨fun s g hs => ?_, hb.2⟩) (fun b hb => ⟨fun s g hs => ?_, (R.bs b).2 ((L.fr r _ b hl (Sub.has_blk hb)).elim .inl (fun h => .inr (.inl h)))⟩)), .inr rfl⟩
          · exact hb.1 s g (look_dels_some hs).2
          · intro hb2
            obtain ⟨h1, h2⟩ := look_dels_some hs
            exact h1 (by rw [L.sep s r g _ b h2 hl hb2 (Sub.has_blk hb)]; simp)
        · cases h
      · cases h
    · obtain ⟨rfl, rfl, hr⟩ := linkOf_sound (φ := φ) (ok := okOf st.regs φ) (w := w) (V := V) h (fun g hg hf => by
        cases g <;> first | exact hv _ _ _ hg | cases hf)
      exact ⟨hr, .inl rfl⟩
    · cases h
  · rename_i r
    split at h
    · obtain ⟨rfl, rfl, hr⟩ := linkOf_sound (φ := φ) (ok := okOf st.regs φ) (w := w) (V := V) h (fun g hg hf => by
        have h3 := hv _ hg
        cases g with
        | box t x H =>
          obtain ⟨b, e1, _, e3⟩ := h3
          rw [e3]; simp [hdr, e1, poff]
        | obox t o H =>
          rcases h3 with ⟨_, _, e3⟩ | ⟨b, _, e1, _, e3⟩
          · exact e3
          · rw [e3]; simp [hdr, e1, poff]
        | row _ _ _ => cases hf
        | mp _ _ _ _ => cases hf)
      exact ⟨hr, .inl rfl⟩
    · cases h
  · rename_i r
    split at h
    · obtain ⟨rfl, rfl, hr⟩ := linkOf_sound (φ := φ) (ok := okOf st.regs φ) (w := w) (V := V) h (fun g hg hf => by
        cases g <;> first | exact hv _ _ _ _ hg | cases hf)
      exact ⟨hr, .inl rfl⟩
    · cases h
  · rename_i u z H'
    rw [Option.map_eq_some_iff] at h
    obtain ⟨z', hz, e⟩ := h
    cases e
    obtain ⟨e1, e2⟩ := castTy_some hz
    subst e1; subst e2
    exact ⟨hv, .inl rfl⟩
  · cases h

end Go.Lift
/- Loads and stores: abstract, and that they tell what the machine does. -/
namespace Go.Lift
open Go

/-! ### what lies in a value -/
def ownPaths : Ty → List (List Step)
  | .own _ => [[]]
  | .ptr _ => [[]]
  | .map _ _ => [[]]
  | .pair a b => (ownPaths a).map (.fst :: ·) ++ (ownPaths b).map (.snd :: ·)
  | .arr n t => (List.range n).flatMap fun (i : Nat) => (ownPaths t).map (Step.idx (i : Int) :: ·)
  | _ => []
theorem ownPaths_spec : ∀ (t : Ty) (q : List Step), q ∈ ownPaths t → pok t q ∧ ∃ u, pty t q = some u ∧ u.link = true := by
  intro t
  induction t with
  | int k => intro q h; cases h
  | bool => intro q h; cases h
  | str => intro q h; cases h
  | unit => intro q h; cases h
  | ro t ih => intro q h; cases h
  | own t ih => intro q h; simp only [ownPaths, List.mem_singleton] at h; subst h; exact ⟨by simp [pok], _, rfl, rfl⟩
  | ptr t ih => intro q h; simp only [ownPaths, List.mem_singleton] at h; subst h; exact ⟨by simp [pok], _, rfl, rfl⟩
  | map k v ihk ihv => intro q h; simp only [ownPaths, List.mem_singleton] at h; subst h; exact ⟨by simp [pok], _, rfl, rfl⟩
  | pair a b iha ihb =>
    intro q h
    simp only [ownPaths, List.mem_append, List.mem_map] at h
    rcases h with ⟨q, h, rfl⟩ | ⟨q, h, rfl⟩
    · exact iha q h
    · exact ihb q h
  | arr n t ih =>
    intro q h
    simp only [ownPaths, List.mem_flatMap, List.mem_range, List.mem_map] at h
    obtain ⟨i, hi, q, h, rfl⟩ := h
    obtain ⟨h1, h2⟩ := ih q h
    exact ⟨⟨by omega, by omega, h1⟩, h2⟩
/-- Where all that is its own is open, the rest reads as it did. -/
theorem rd_hs {ok : Nat → Prop} {w : World} : ∀ (t : Ty) (s s' : Sub) (x : t.den) (c : Nat → Option Value), (∀ q ∈ ownPaths t, (s' q).hd = false) → t.rd ok w s x c → t.rd ok w s' x c := by
  intro t
  induction t with
  | int k => intro s s' x c _ hr; exact hr
  | bool => intro s s' x c _ hr; exact hr
  | str => intro s s' x c _ hr; exact hr
  | unit => intro s s' x c _ hr; exact hr
  | ro t ih => intro s s' x c _ hr; exact hr
  | own t ih => intro s s' x c h hr; exact rd_open rfl (h [] (by simp [ownPaths]))
  | ptr t ih => intro s s' x c h hr; exact rd_open rfl (h [] (by simp [ownPaths]))
  | map k v ihk ihv => intro s s' x c h hr; exact rd_open rfl (h [] (by simp [ownPaths]))
  | pair a b iha ihb =>
    intro s s' x c h hr
    exact ⟨iha _ _ _ _ (fun q hq => h (.fst :: q) (by simp [ownPaths, hq])) hr.1, ihb _ _ _ _ (fun q hq => h (.snd :: q) (by simp [ownPaths, hq])) hr.2⟩
  | arr n t ih =>
    intro s s' x c h hr
    refine ⟨hr.1, fun i hi => ih _ _ _ _ (fun q hq => h (.idx i :: q) ?_) (hr.2 i hi)⟩
    have := hr.1
    simp only [ownPaths, List.mem_flatMap, List.mem_range, List.mem_map]
    exact ⟨i, by omega, q, hq, rfl⟩
/-- A cell holds one value, or it is open. -/
theorem rd_cell' {ok : Nat → Prop} {w : World} : ∀ (t : Ty) (s : Sub) (x : t.den) (c : Nat → Option Value), t.rd ok w s x c → ∀ j, j < t.sz → (∃ v, c j = some v ∧ v.oneCell' = true) ∨ ∃ q ∈ ownPaths t, poff t q = j ∧ (s q).hd = false := by
  intro t
  induction t with
  | int k => intro s x c h j hj; simp [Ty.sz] at hj; subst hj; exact .inl ⟨_, h, rfl⟩
  | bool => intro s x c h j hj; simp [Ty.sz] at hj; subst hj; exact .inl ⟨_, h, rfl⟩
  | str => intro s x c h j hj; simp [Ty.sz] at hj; subst hj; exact .inl ⟨_, h, rfl⟩
  | unit => intro s x c h j hj; simp [Ty.sz] at hj
  | ro t ih => intro s x c h j hj; simp [Ty.sz] at hj; subst hj; obtain ⟨a, cap, h0, _⟩ := h; exact .inl ⟨_, h0, rfl⟩
  | own t ih =>
    intro s x c h j hj
    simp [Ty.sz] at hj
    subst hj
    cases hd : (s []).hd with
    | true => exact .inl ⟨_, (h hd).1, rfl⟩
    | false => exact .inr ⟨[], by simp [ownPaths], rfl, hd⟩
  | ptr t ih =>
    intro s x c h j hj
    simp [Ty.sz] at hj
    subst hj
    cases hd : (s []).hd with
    | true => exact .inl ⟨_, (h hd).1, rfl⟩
    | false => exact .inr ⟨[], by simp [ownPaths], rfl, hd⟩
  | map k v ihk ihv =>
    intro s x c h j hj
    simp [Ty.sz] at hj
    subst hj
    cases hd : (s []).hd with
    | true => exact .inl ⟨_, (h hd).1, rfl⟩
    | false => exact .inr ⟨[], by simp [ownPaths], rfl, hd⟩
  | pair a b iha ihb =>
    intro s x c h j hj
    simp only [Ty.sz] at hj
    by_cases hja : j < a.sz
    · rcases iha _ _ _ h.1 j hja with h1 | ⟨q, hq, e, e2⟩
      · exact .inl h1
      · exact .inr ⟨.fst :: q, by simp [ownPaths, hq], e, e2⟩
    · rcases ihb _ _ _ h.2 (j - a.sz) (by omega) with ⟨v, hv, h1⟩ | ⟨q, hq, e, e2⟩
      · have hv' : c (a.sz + (j - a.sz)) = some v := hv
        rw [show a.sz + (j - a.sz) = j from by omega] at hv'
        exact .inl ⟨v, hv', h1⟩
      · exact .inr ⟨.snd :: q, by simp [ownPaths, hq], by simp only [poff]; omega, e2⟩
  | arr n t ih =>
    intro s x c h j hj
    simp only [Ty.sz] at hj
    have hp : 0 < t.sz := by
      rcases Nat.eq_zero_or_pos t.sz with h0 | h0
      · rw [h0] at hj; simp at hj
      · exact h0
    have hn := h.1
    have hd : j / t.sz < n := Nat.div_lt_of_lt_mul (by rw [Nat.mul_comm]; exact hj)
    rcases ih _ _ _ (h.2 (j / t.sz) (by omega)) (j % t.sz) (Nat.mod_lt _ hp) with ⟨v, hv, h1⟩ | ⟨q, hq, e, e2⟩
    · have hv' : c (j / t.sz * t.sz + j % t.sz) = some v := hv
      rw [Nat.mul_comm, Nat.div_add_mod] at hv'
      exact .inl ⟨v, hv', h1⟩
    · refine .inr ⟨.idx ((j / t.sz : Nat) : Int) :: q, ?_, ?_, e2⟩
      · simp only [ownPaths, List.mem_flatMap, List.mem_range, List.mem_map]
        exact ⟨_, hd, q, hq, rfl⟩
      · simp only [poff, Int.toNat_natCast, e]
        rw [Nat.mul_comm, Nat.div_add_mod]

/-! ### load -/
def holeOf : Holes → List Step → Option (List Step × Nat)
  | [], _ => none
  | (q, m) :: H, p => if sameShape q p = true then some (q, m) else holeOf H p
theorem holeOf_spec : ∀ {H : Holes} {p q : List Step} {m : Nat}, holeOf H p = some (q, m) → (q, m) ∈ H ∧ sameShape q p = true
  | [], _, _, _, h => by cases h
  | (q0, m0) :: H, p, q, m, h => by
    unfold holeOf at h
    split at h
    · rename_i hs; cases h; exact ⟨List.mem_cons_self .., hs⟩
    · obtain ⟨h1, h2⟩ := holeOf_spec h; exact ⟨List.mem_cons_of_mem _ h1, h2⟩
/-- What lies open at a place. -/
def linkV (rs : Regs) (g : Reg) (p : List Step) (u : Ty) : Option (List Prop × SV) :=
  match holeOf g.holes p with
  | some (q, m) => match u with
    | .own τ => match look rs m with
      | some (.row τ' _ _) => if τ' = τ then some (preVC q p, .sl m) else none
      | _ => none
    | .ptr τ => match look rs m with
      | some (.box τ' _ _) => if τ' = τ then some (preVC q p, .addr m []) else none
      | some (.obox τ' _ _) => if τ' = τ then some (preVC q p, .addr m []) else none
      | _ => none
    | .map k v => match look rs m with
      | some (.mp k' v' _ _) => if k' = k ∧ v' = v then some (preVC q p, .mp m) else none
      | _ => none
    | _ => none
  | none => none
/-- All that lies open in a place. -/
def nstH (rs : Regs) (g : Reg) (p : List Step) : List (List Step) → Option (List Prop × Holes)
  | [] => some ([], [])
  | q :: qs => match holeOf g.holes (p ++ q) with
    | some (q', m) => match look rs m, nstH rs g p qs with
      | some _, some (vc, H) => some (preVC q' (p ++ q) ++ vc, (q, m) :: H)
      | _, _ => none
    | none => none
def nstV (rs : Regs) (g : Reg) (p : List Step) (u : Ty) : Option (List Prop × SV) :=
  match getR g p u, nstH rs g p (ownPaths u) with
  | some y, some (vc, H) => some (vc, .nst u y H)
  | _, _ => none
/-- The root of what may be nothing. -/
def rootOb (g : Reg) (p : List Step) : Bool :=
  match g, p with
  | .obox _ _ _, [] => true
  | _, _ => false
theorem rootOb_spec {g : Reg} {p : List Step} (h : rootOb g p = false) : p ≠ [] ∨ ∀ t o H, g ≠ .obox t o H := by
  cases p with
  | nil => cases g <;> first | (right; intro t o H e; cases e; done) | cases h
  | cons a p => left; simp
def loadV (P : Program) (rs : Regs) (t : TypeId) (x : SV) : Option (List Prop × SV) :=
  match x with
  | .ra u y => if fits P t u = true then some ([], .val u y) else none
  | .addr r p => match look rs r with
    | some g => if rootOb g p = true then none else match ptyR g p with
      | some u => if fits P t u = true then
          (if u.plain = true then (getR g p u).map (fun y => ([], SV.val u y)) else if u.link = true then linkV rs g p u else nstV rs g p u) else none
      | none => none
    | none => none
  | _ => none

theorem nstH_spec {rs : Regs} {g : Reg} {p : List Step} : ∀ {qs : List (List Step)} {vc : List Prop} {H : Holes}, nstH rs g p qs = some (vc, H) → (∀ P ∈ vc, P) →
    H.map (·.1) = qs ∧ ∀ q m, (q, m) ∈ H → (p ++ q, m) ∈ g.holes ∧ ∃ gm, look rs m = some gm
  | [], vc, H, h, _ => by cases h; exact ⟨rfl, by simp⟩
  | q :: qs, vc, H, h, hv => by
    unfold nstH at h
    split at h
    · rename_i q' m hq
      split at h
      · rename_i gm vc' H' hm hr
        cases h
        obtain ⟨h1, h2⟩ := nstH_spec hr (fun P hP => hv P (List.mem_append_right _ hP))
        obtain ⟨k1, k2⟩ := holeOf_spec hq
        have e := eq_of_same k2 (fun P hP => hv P (List.mem_append_left _ hP))
        refine ⟨by simp [h1], fun a b hab => ?_⟩
        rcases List.mem_cons.1 hab with hab | hab
        · cases hab; exact ⟨e ▸ k1, _, hm⟩
        · exact h2 a b hab
      · cases h
    · cases h

theorem cells_of_link {φ : Phi} {g : Reg} {m : Nat} {V c : Value} (h : V.cells[0]? = some c) (hs : V.cells.size = 1) (hag : Value.isAgg V = false) (hc : c = hdr (φ m) g) : V = hdr (φ m) g := by
  have : V.cells = #[V] := by cases V <;> first | rfl | (simp [Value.isAgg] at hag)
  rw [this] at h
  simp at h
  rw [h, hc]

theorem loadV_sound {cx : Cx} {φ : Phi} {st : St} {a : Act} {w : World} (R : RelF cx φ st a w) {t : TypeId} {x v : SV} {vc : List Prop} {X : Value}
    (h : loadV cx.P st.regs t x = some (vc, v)) (hvc : ∀ p ∈ vc, p) (hx : SVRel st.regs φ (okOf st.regs φ) w x X) :
    ∃ V, (Instr.loadAt t X).run cx.P w = .ok V w ∧ SVRel st.regs φ (okOf st.regs φ) w v V := by
  have L := R.lay
  unfold loadV at h
  split at h
  · rename_i u y
    split at h
    · rename_i hf
      cases h
      obtain ⟨b, o, cs, ty, fz, e1, e2, e3, e4⟩ := hx
      obtain ⟨V, hV, hr⟩ := run_loadVar_rd hf e3 e4
      refine ⟨V, ?_, hr⟩
      simp only [Instr.loadAt, e1, Instr.sureAddr, Sem.run_bind, Sem.run_pure, Result.andThen_ok, hV]
    · cases h
  · rename_i r p
    split at h
    · rename_i g hl
      split at h
      · cases h
      · rename_i hob
        split at h
        · rename_i u hp
          split at h
          · rename_i hf
            obtain ⟨hpok, hcl, b, e1, e2⟩ := addr_place (hx _ hl) (rootOb_spec (by simpa using hob))
            obtain ⟨b', cs, ty, fz, f1, f2, f3, f4, f5, _⟩ := place_of (L.rg r g hl) hpok hp hcl
            rw [e1] at f1; cases f1
            have hcell : ∀ q m v0, (q, m) ∈ g.holes → pokR g q → ptyR g q = some v0 → ∀ gm, look st.regs m = some gm → cs[offR (φ r) g q]? = some (hdr (φ m) gm) := by
              intro q m v0 hq hqo hqt gm hgm
              have := L.hl r g hl q m hq hqo gm hgm
              rw [cellR_off hcl hqt, e1] at this
              simpa [cellAt, f2] using this
            split at h
            · rename_i hpl
              rw [Option.map_eq_some_iff] at h
              obtain ⟨y, hy, e⟩ := h
              cases e
              obtain ⟨V, hV, hr⟩ := run_loadVar_rd hf f2 (Ty.rd_plain _ _ _ _ _ hpl (f5 y hy))
              refine ⟨V, ?_, hr⟩
              simp only [Instr.loadAt, e2, Instr.sureAddr, Sem.run_bind, Sem.run_pure, Result.andThen_ok, hV]
            · rename_i hnpl
              split at h
              · rename_i hlk
                obtain ⟨s1, s2, s3⟩ := link_sz hlk
                unfold linkV at h
                split at h
                · rename_i q m hq
                  obtain ⟨k1, k2⟩ := holeOf_spec hq
                  have key : ∀ gm, look st.regs m = some gm → (∀ P ∈ preVC q p, P) → ∃ V, (Instr.loadAt t X).run cx.P w = .ok V w ∧ V = hdr (φ m) gm := by
                    intro gm hgm hv
                    have e := eq_of_same k2 hv
                    subst e
                    have hc := hcell q m u k1 hpok hp gm hgm
                    obtain ⟨V, hV, g1, g2, g3⟩ := run_loadVar_cells hf f2 f4 (fun j hj v hv => by
                      rw [s1] at hj
                      have : j = 0 := by omega
                      subst this
                      rw [Nat.add_zero, hc] at hv; cases hv
                      exact (hdr_one _ _).1)
                    refine ⟨V, ?_, ?_⟩
                    · simp only [Instr.loadAt, e2, Instr.sureAddr, Sem.run_bind, Sem.run_pure, Result.andThen_ok, hV]
                    · have g3' := g3 0 (by omega)
                      rw [Nat.add_zero, hc] at g3'
                      exact cells_of_link g3' (by omega) (by rw [g2, s2]) rfl
                  split at h
                  · split at h
                    · rename_i hm
                      split at h
                      · rename_i ht
                        cases h
                        obtain ⟨V, k3, k4⟩ := key _ hm hvc
                        refine ⟨V, k3, fun t' xs' H' hl' => ?_⟩
                        rw [hm] at hl'; cases hl'
                        exact k4
                      · cases h
                    · cases h
                  · split at h
                    · rename_i hm
                      split at h
                      · rename_i ht
                        cases h
                        obtain ⟨V, k3, k4⟩ := key _ hm hvc
                        refine ⟨V, k3, fun g' hl' => ?_⟩
                        rw [hm] at hl'; cases hl'
                        obtain ⟨_, b2, cs2, ty2, fz2, m1, _⟩ := L.rg m _ hm
                        exact ⟨b2, m1, by simp [pok], by rw [k4]; simp [hdr, Sub.blk, m1, poff]⟩
                      · cases h
                    · rename_i o H hm
                      split at h
                      · rename_i ht
                        cases h
                        obtain ⟨V, k3, k4⟩ := key _ hm hvc
                        refine ⟨V, k3, fun g' hl' => ?_⟩
                        rw [hm] at hl'; cases hl'
                        refine .inl ⟨rfl, ?_, k4⟩
                        have := L.rg m _ hm
                        cases o with
                        | none =>
                          have h1 : ((φ m) []).blk = none := this
                          simp [Sub.blk, h1]
                        | some x0 =>
                          obtain ⟨_, b2, cs2, ty2, fz2, m1, _⟩ := this
                          simp [Sub.blk, m1]
                      · cases h
                    · cases h
                  · split at h
                    · rename_i hm
                      split at h
                      · cases h
                        obtain ⟨V, k3, k4⟩ := key _ hm hvc
                        refine ⟨V, k3, fun k' v' o' H' hl' => ?_⟩
                        rw [hm] at hl'; cases hl'
                        exact k4
                      · cases h
                    · cases h
                  · cases h
                · cases h
              · unfold nstV at h
                split at h
                · rename_i y vc' H hy hn
                  cases h
                  obtain ⟨n1, n2⟩ := nstH_spec hn hvc
                  have hrd := f5 y hy
                  have hmem : ∀ q ∈ ownPaths u, ∃ m, (q, m) ∈ H := by
                    intro q hq
                    rw [← n1, List.mem_map] at hq
                    obtain ⟨⟨q', m⟩, hqm, rfl⟩ := hq
                    exact ⟨m, hqm⟩
                  have hown : ∀ q m, (q, m) ∈ H → q ∈ ownPaths u := fun q m hqm => by rw [← n1]; exact List.mem_map.2 ⟨_, hqm, rfl⟩
                  have hc : ∀ q m, (q, m) ∈ H → ∀ gm, look st.regs m = some gm → cs[offR (φ r) g p + poff u q]? = some (hdr (φ m) gm) := by
                    intro q m hqm gm hgm
                    obtain ⟨p1, u1, p2, p3⟩ := ownPaths_spec u q (hown q m hqm)
                    rw [← offR_app hcl hp]
                    exact hcell _ m u1 (n2 q m hqm).1 ((pokR_app hcl hp).2 ⟨hpok, p1⟩) ((ptyR_app hcl hp).trans p2) gm hgm
                  have hone : ∀ j, j < u.sz → ∀ v, cs[offR (φ r) g p + j]? = some v → v.oneCell' = true := by
                    intro j hj v hv
                    rcases rd_cell' u _ y _ hrd j hj with ⟨v', hv', h1⟩ | ⟨q, hq, e, _⟩
                    · have hv'' : cs[offR (φ r) g p + j]? = some v' := hv'
                      rw [hv] at hv''; cases hv''; exact h1
                    · obtain ⟨m, hqm⟩ := hmem q hq
                      obtain ⟨gm, hgm⟩ := (n2 q m hqm).2
                      have := hc q m hqm gm hgm
                      rw [e, hv] at this
                      cases this
                      exact (hdr_one _ _).1
                  obtain ⟨V, hV, g1, g2, g3⟩ := run_loadVar_cells hf f2 f4 hone
                  refine ⟨V, ?_, ?_, g1, g2, ?_, fun q m hqm => ⟨(ownPaths_spec u q (hown q m hqm)).1, fun gm hgm => ?_⟩⟩
                  · simp only [Instr.loadAt, e2, Instr.sureAddr, Sem.run_bind, Sem.run_pure, Result.andThen_ok, hV]
                  · refine Ty.rd_congr _ _ _ _ _ (fun j hj => (g3 j hj).symm) (rd_hs u _ _ y _ (fun q hq => ?_) hrd)
                    obtain ⟨m, hqm⟩ := hmem q hq
                    simp only [hsub, Bool.not_eq_false', List.any_eq_true, decide_eq_true_eq]
                    exact ⟨_, hqm, rfl⟩
                  · intro c hcm
                    obtain ⟨j, hj, e⟩ := List.getElem_of_mem hcm
                    have hj' : j < V.cells.size := by simpa using hj
                    have h3 := g3 j (by omega)
                    have h4 : V.cells[j]? = some c := by
                      rw [Array.getElem?_eq_getElem hj']
                      congr 1
                    exact hone j (by omega) c (by rw [← h3, h4])
                  · obtain ⟨p1, u1, p2, p3⟩ := ownPaths_spec u q (hown q m hqm)
                    have h5 := poff_le q u u1 p1 p2
                    have h6 := (link_sz p3).1
                    rw [g3 _ (by omega)]
                    exact hc q m hqm gm hgm
                · cases h
          · cases h
        · cases h
    · cases h
  · cases h

/-! ### store -/
def linkHs (u : Ty) (H : Holes) : Bool := H.all fun q => match pty u q.1 with
  | some v => v.link
  | none => false
def storeV (P : Program) (rs : Regs) (t : TypeId) (x v : SV) : Option (List Prop × Eff) :=
  match x with
  | .addr r p => match look rs r with
    | some g => match ptyR g p with
      | some u => match toVal rs v u with
        | some (y, l, Hn) => if sizeT P t = some u.sz ∧ r ∉ l ∧ rootOb g p = false ∧ (Hn.all fun q => !(Nat.beq q.2 r)) = true ∧ linkHs u Hn = true then
            (match setR g p u y ((g.holes.filter fun q => !shapePre p q.1) ++ Hn.map fun q => (p ++ q.1, q.2)) with
            | some g' => some (g.holes.flatMap (fun q => if shapePre p q.1 = true then preVC p q.1 else []), l.map EffI.del ++ [EffI.set (some r) r g'])
            | none => none) else none
        | none => none
      | none => none
    | none => none
  | _ => none

theorem app_dels (rs : Regs) (e : Eff) : ∀ (l : List Nat), Eff.app rs (l.map EffI.del ++ e) = Eff.app (dels rs l) e
  | [] => rfl
  | r :: l => by simp only [List.map_cons, List.cons_append, Eff.app, EffI.app, dels]; exact app_dels (drop rs r) e l

theorem okOf_dels {rs : Regs} {φ : Phi} (l : List Nat) {b : Nat} (h : okOf rs φ b) : okOf (dels rs l) φ b := by
  refine ⟨fun s g hs => ?_, h.2⟩
  rw [look_dels] at hs
  split at hs
  · cases hs
  · exact h.1 s g hs

theorem put_some {s s' : Sub} {P q r : List Step} (h : after P q = some r) : (s.put P s') q = s' r := by simp [Sub.put, h]
theorem put_none {s s' : Sub} {P q : List Step} (h : after P q = none) : (s.put P s') q = s q := by simp [Sub.put, h]
theorem put_cases (s s' : Sub) (P q : List Step) : (∃ r, q = P ++ r ∧ (s.put P s') q = s' r) ∨ ((∀ r, q ≠ P ++ r) ∧ (s.put P s') q = s q) := by
  cases h : after P q with
  | some r => exact Or.inl ⟨r, after_some h, put_some h⟩
  | none => exact Or.inr ⟨fun r e => (by rw [e, after_app] at h; cases h), put_none h⟩
theorem put_hsub_has {s : Sub} {P : List Step} {H : Holes} {b : Nat} (h : (s.put P (hsub H)).has b) : s.has b := by
  obtain ⟨q, hq⟩ := h
  rcases put_cases s (hsub H) P q with ⟨r, _, e⟩ | ⟨_, e⟩
  · rw [e] at hq; exact (hsub_has ⟨r, hq⟩).elim
  · rw [e] at hq; exact ⟨q, hq⟩
theorem put_hsub_get {s : Sub} {P q : List Step} {H : Holes} {b : Nat} (h : (s.put P (hsub H) q).blk = some b) : (s q).blk = some b := by
  rcases put_cases s (hsub H) P q with ⟨r, _, e⟩ | ⟨_, e⟩
  · rw [e] at h; exact (hsub_has ⟨r, h⟩).elim
  · rwa [e] at h
theorem put_hsub_inj {s : Sub} {P : List Step} {H : Holes} (h : s.inj) : (s.put P (hsub H)).inj := fun p q b h1 h2 => h p q b (put_hsub_get h1) (put_hsub_get h2)

theorem base_ne {g : Reg} {p : List Step} {u : Ty} (h : ptyR g p = some u) (hc : g.isCells = true) : g.base ++ p ≠ [] := by
  obtain ⟨a, q, e⟩ := base_append g p u h hc
  rw [e]; simp

theorem storeV_sound {cx : Cx} {φ : Phi} {st : St} {a : Act} {w : World} (R : RelF cx φ st a w) {t : TypeId} {x v : SV} {vc : List Prop} {e : Eff} {X V : Value}
    (h : storeV cx.P st.regs t x v = some (vc, e)) (hvc : ∀ p ∈ vc, p) (hx : SVRel st.regs φ (okOf st.regs φ) w x X) (hv : SVRel st.regs φ (okOf st.regs φ) w v V) :
    ∃ w' φ', (Instr.storeAt t X V).run cx.P w = .ok () w' ∧ RelF cx φ' { st with regs := e.app st.regs } a w' := by
  unfold storeV at h
  split at h
  · rename_i r p
    split at h
    · rename_i g hl
      split at h
      · rename_i u hp
        split at h
        · rename_i y l Hn htv
          split at h
          · rename_i hc
            obtain ⟨hsz, hnl, hob, hnr, hlk⟩ := hc
            split at h
            · rename_i g' hg'
              cases h
              have R1 := R.dels l
              have L1 := R1.lay
              obtain ⟨⟨v1, v2, v3, v4, v5⟩, hdis⟩ := toVal_sound R htv hv
              obtain ⟨hpok, hcl, b, e1, e2⟩ := addr_place (hx _ hl) (rootOb_spec hob)
              have hl1 : look (dels st.regs l) r = some g := by rw [look_dels, if_neg hnl]; exact hl
              obtain ⟨b', cs, ty, fz, f1, f2, f3, f4, _, f6⟩ := place_of (L1.rg r g hl1) hpok hp hcl
              rw [e1] at f1; cases f1
              obtain ⟨s1, s2, s3, s4, s5, _, s6, s7, s8⟩ := setR_pty hg'
              obtain ⟨w', cs', g1, g2, g3, g4, g5⟩ := run_storeVar_cells (P := cx.P) (b := b) (o := offR (φ r) g p) hsz f2 f3 f4 v2 v4
              have hne := base_ne hp hcl
              have hsame : (φ r).same ((φ r).put (g.base ++ p) (hsub Hn)) := Sub.put_same hne
              -- what stays open
              have hkeep : ∀ q m, (q, m) ∈ g.holes → shapePre p q = true → ∃ s, q = p ++ s := by
                intro q m hq hs
                refine after_of_pre hs fun P hP => hvc P ?_
                refine List.mem_flatMap.2 ⟨(q, m), hq, ?_⟩
                simp only [hs, if_true]; exact hP
              refine ⟨w', setLoc φ r ((φ r).put (g.base ++ p) (hsub Hn)), ?_, ?_⟩
              · simp only [Instr.storeAt, e2, Instr.sureAddr, Sem.run_bind, Sem.run_pure, Result.andThen_ok, g1]
              · rw [app_dels]
                refine R1.step (w' := w') (some r) r g' _ (fun b0 hb0 => .inr ⟨r, g, rfl, hl1, put_hsub_has hb0⟩) (fun q b0 _ hb0 => L1.al r g b0 hl1 ⟨q, put_hsub_get hb0⟩)
                  (fun b0 hb0 => by rw [g2.size]; exact L1.al r g b0 hl1 (put_hsub_has hb0)) (put_hsub_inj (L1.inj r g hl1)) ?_ (.inr ⟨rfl, hsame, g, hl1, s2⟩)
                  (fun l0 _ hf => by have := hf.1; rw [hl1] at this; cases this) ?_ ?_ ?_ ?_ g2.os g2.tape g2.output (by rw [g2.size]; exact Nat.le_refl _)
                · intro b0 _ hne0
                  refine g2.other b0 fun e0 => hne0 ?_
                  rw [← hsame.blk, e1, e0]
                · exact f6 w' cs' (hsub Hn) y _ g' (fun j => V.cells[j]?) hg' g2.at_ g3 g4 v1 g5
                · intro q m hqm
                  rw [s3] at hqm
                  have hoff : ∀ q, offR ((φ r).put (g.base ++ p) (hsub Hn)) g' q = offR (φ r) g q := fun q => by
                    rw [s8]
                    have h0 := hsame.off
                    cases g with
                    | row t xs H =>
                      cases q with
                      | nil => rfl
                      | cons c q => cases c <;> first | rfl | (simp only [offR]; rw [← h0])
                    | box t x H => cases q <;> rfl
                    | obox t o H => cases q <;> rfl
                    | mp _ _ _ _ => cases hcl
                  have hcr : ∀ q u', ptyR g q = some u' → cellR w' ((φ r).put (g.base ++ p) (hsub Hn)) g' q = cs'[offR (φ r) g q]? := fun q u' hq => by
                    rw [cellR_off s5 ((s7 q).trans hq), hoff, ← hsame.blk, e1]
                    simp [cellAt, g2.at_]
                  rcases List.mem_append.1 hqm with hqm | hqm
                  · obtain ⟨k1, k2⟩ := List.mem_filter.1 hqm
                    obtain ⟨n1, _, u', n2, n3⟩ := L1.ht r g hl1 q m k1
                    refine ⟨n1, fun _ hqo gm hgm => ?_⟩
                    have hqo' := (s6 q).1 hqo
                    have hb := besideR (l := φ r) hcl hpok hqo' hp n2 n3 (fun s es => by
                      rw [es, shapePre_app] at k2; cases k2)
                    have h1 := (link_sz n3).1
                    rw [hcr q u' n2, g4 _ (by omega)]
                    have := L1.hl r g hl1 q m k1 hqo' gm hgm
                    rw [cellR_off hcl n2, e1] at this
                    simpa [cellAt, f2] using this
                  · obtain ⟨⟨q', m'⟩, k1, k2⟩ := List.mem_map.1 hqm
                    simp only [Prod.mk.injEq] at k2
                    obtain ⟨rfl, rfl⟩ := k2
                    have hmr : m' ≠ r := by
                      have := List.all_eq_true.1 hnr _ k1
                      intro e0; subst e0
                      simp at this
                    refine ⟨hmr, fun _ hqo gm hgm => ?_⟩
                    obtain ⟨n1, n2⟩ := v5 q' m' k1
                    have hlq := List.all_eq_true.1 hlk _ k1
                    cases hpq : pty u q' with
                    | none => simp [hpq] at hlq
                    | some v0 =>
                      simp only [hpq] at hlq
                      have h5 := poff_le q' u v0 n1 hpq
                      have h6 := (link_sz hlq).1
                      rw [hcr (p ++ q') v0 ((ptyR_app hcl hp).trans hpq), offR_app hcl hp, g5 _ (by omega)]
                      exact n2 gm hgm
                · intro q hq
                  rw [s3, s4]
                  rcases put_cases (φ r) (hsub Hn) (g.base ++ p) q with ⟨s, es, e0⟩ | ⟨hns, e0⟩
                  · rw [e0] at hq
                    obtain ⟨m, hm⟩ := hsub_hd hq
                    refine ⟨p ++ s, m, List.mem_append_right _ (List.mem_map.2 ⟨_, hm, rfl⟩), by rw [es, List.append_assoc], ?_⟩
                    exact (s6 _).2 ((pokR_app hcl hp).2 ⟨hpok, (v5 s m hm).1⟩)
                  · rw [e0] at hq
                    obtain ⟨q0, m, k1, k2, k3⟩ := L1.told r g hl1 q hq
                    refine ⟨q0, m, List.mem_append_left _ (List.mem_filter.2 ⟨k1, ?_⟩), k2, (s6 _).2 k3⟩
                    simp only [Bool.not_eq_true']
                    cases hs : shapePre p q0 with
                    | false => rfl
                    | true =>
                      obtain ⟨s, rfl⟩ := hkeep q0 m k1 hs
                      exact (hns s (by rw [k2, List.append_assoc])).elim
                · intro q m hqm
                  rw [s3] at hqm
                  rcases List.mem_append.1 hqm with hqm | hqm
                  · obtain ⟨k1, _⟩ := List.mem_filter.1 hqm
                    obtain ⟨_, n0, u', n2, n3⟩ := L1.ht r g hl1 q m k1
                    exact ⟨fun _ => (s6 q).2 (n0 hcl), u', (s7 q).trans n2, n3⟩
                  · obtain ⟨⟨q', m'⟩, k1, k2⟩ := List.mem_map.1 hqm
                    simp only [Prod.mk.injEq] at k2
                    obtain ⟨rfl, rfl⟩ := k2
                    have hlq := List.all_eq_true.1 hlk _ k1
                    cases hpq : pty u q' with
                    | none => simp [hpq] at hlq
                    | some v0 =>
                      simp only [hpq] at hlq
                      exact ⟨fun _ => (s6 _).2 ((pokR_app hcl hp).2 ⟨hpok, (v5 q' m' k1).1⟩), v0, (s7 _).trans ((ptyR_app hcl hp).trans hpq), hlq⟩
            · cases h
          · cases h
        · cases h
      · cases h
    · cases h
  · cases h

/-- A box is written as a whole by what is of its type but for what is owned. -/
def storeT (P : Program) (rs : Regs) (t : TypeId) (x v : SV) : Option (List Prop × Eff) :=
  match x, v with
  | .addr r [], .val u y => match look rs r with
    | some (.box t' _ []) => if t'.roT = u.roT ∧ sizeT P t = some u.sz then some ([], [EffI.set (some r) r (.box u y [])]) else none
    | _ => none
  | _, _ => none
theorem storeT_sound {cx : Cx} {φ : Phi} {st : St} {a : Act} {w : World} (R : RelF cx φ st a w) {t : TypeId} {x v : SV} {vc : List Prop} {e : Eff} {X V : Value}
    (h : storeT cx.P st.regs t x v = some (vc, e)) (hx : SVRel st.regs φ (okOf st.regs φ) w x X) (hv : SVRel st.regs φ (okOf st.regs φ) w v V) :
    ∃ w' φ', (Instr.storeAt t X V).run cx.P w = .ok () w' ∧ RelF cx φ' { st with regs := e.app st.regs } a w' := by
  have L := R.lay
  unfold storeT at h
  split at h
  · rename_i r u y
    split at h
    · rename_i t' x0 hl
      split at h
      · rename_i hc
        obtain ⟨hro, hsz⟩ := hc
        cases h
        have hs : t'.sz = u.sz := by rw [← (roT_sz t').1, hro, (roT_sz u).1]
        obtain ⟨h0, b, cs, ty, fz, f1, f2, f3, f4, _⟩ := L.rg r _ hl
        have e1 : (φ r).blk = some b := f1
        obtain ⟨b', k1, _, k2⟩ := hx _ hl
        rw [e1] at k1; cases k1
        have hv : VRel (okOf st.regs φ) w u y V := hv
        obtain ⟨v1, v2, v3⟩ := id hv
        obtain ⟨w', cs', g1, g2, g3, g4, g5⟩ := run_storeVar_cells (P := cx.P) (b := b) (o := 0) hsz f2 f3 (by rw [f4, hs]; omega) v2 hv.cells_list
        have hsame : (φ r).same ((φ r).put [.deref] (hsub [])) := Sub.put_same (by simp)
        refine ⟨w', setLoc φ r ((φ r).put [.deref] (hsub [])), ?_, ?_⟩
        · rw [k2]
          simp only [Instr.storeAt, Instr.sureAddr, Sem.run_bind, Sem.run_pure, Result.andThen_ok, poff, g1]
        · refine R.step (w' := w') (some r) r (.box u y []) _ (fun b0 hb0 => .inr ⟨r, _, rfl, hl, put_hsub_has hb0⟩) (fun q b0 _ hb0 => L.al r _ b0 hl ⟨q, put_hsub_get hb0⟩)
            (fun b0 hb0 => by rw [g2.size]; exact L.al r _ b0 hl (put_hsub_has hb0)) (put_hsub_inj (L.inj r _ hl)) ?_ (.inr ⟨rfl, hsame, _, hl, hro⟩)
            (fun l0 _ hf => by have := hf.1; rw [hl] at this; cases this) ?_ ?_ ?_ ?_ g2.os g2.tape g2.output (by rw [g2.size]; exact Nat.le_refl _)
          · intro b0 _ hne0
            refine g2.other b0 fun e0 => hne0 ?_
            rw [← hsame.blk, e1, e0]
          · refine ⟨by rw [show (((φ r).put [.deref] (hsub [])) []).off = ((φ r) []).off from (hsame.off).symm]; exact h0, b, cs', ty, fz, ?_, g2.at_, by rw [g3]; exact f3, by rw [g3, f4, hs], ?_⟩
            · rw [show (((φ r).put [.deref] (hsub [])) []).blk = ((φ r) []).blk from (hsame.blk).symm]; exact f1
            · rw [Sub.put_cons_at, Sub.put_nil, hsub_nil]
              refine Ty.rd_congr _ _ _ _ _ (fun j hj => ?_) v1
              have := g5 j hj
              rw [Nat.zero_add] at this
              exact this.symm
          · intro q m hqm; cases hqm
          · intro q hq
            rcases put_cases (φ r) (hsub []) [.deref] q with ⟨s, es, e0⟩ | ⟨hns, e0⟩
            · rw [e0] at hq
              obtain ⟨m, hm⟩ := hsub_hd hq
              cases hm
            · rw [e0] at hq
              obtain ⟨q0, m, k1, _⟩ := L.told r _ hl q hq
              cases k1
          · intro q m hqm; cases hqm
      · cases h
    · cases h
  · cases h
end Go.Lift
/- Maps as lists of entries: pure words, and how they lie in the machine. -/
namespace Go.Lift
open Go

section pure
variable {β : Type}
def getE : List (Int × β) → Int → Option β
  | [], _ => none
  | e :: es, x => if e.1 = x then some e.2 else getE es x
def setE : List (Int × β) → Int → β → List (Int × β)
  | [], _, _ => []
  | e :: es, x, y => if e.1 = x then (x, y) :: es else e :: setE es x y
def putE : List (Int × β) → Int → β → List (Int × β)
  | [], x, y => [(x, y)]
  | e :: es, x, y => if e.1 = x then (x, y) :: es else e :: putE es x y
def delE : List (Int × β) → Int → List (Int × β)
  | [], _ => []
  | e :: es, x => if e.1 = x then es else e :: delE es x
def getO (o : Option (List (Int × β))) (x : Int) : Option β :=
  match o with
  | some es => getE es x
  | none => none
def setO (o : Option (List (Int × β))) (x : Int) (y : β) : Option (List (Int × β)) :=
  match o with
  | some es => some (setE es x y)
  | none => none
def putO (o : Option (List (Int × β))) (x : Int) (y : β) : Option (List (Int × β)) :=
  match o with
  | some es => some (putE es x y)
  | none => none
def delO' (o : Option (List (Int × β))) (x : Int) : Option (List (Int × β)) :=
  match o with
  | some es => some (delE es x)
  | none => none

theorem ent_absent : ∀ {es : List (Int × β)} {x : Int}, (∀ e ∈ es, e.1 ≠ x) → getE es x = none ∧ (∀ y, setE es x y = es) ∧ (∀ y, putE es x y = es ++ [(x, y)]) ∧ delE es x = es
  | [], x, _ => ⟨rfl, fun _ => rfl, fun _ => rfl, rfl⟩
  | e :: es, x, h => by
    obtain ⟨h1, h2, h3, h4⟩ := ent_absent (es := es) (x := x) fun e he => h e (.tail _ he)
    have hne := h e (.head _)
    exact ⟨by simp [getE, hne, h1], fun y => by simp [setE, hne, h2], fun y => by simp [putE, hne, h3], by simp [delE, hne, h4]⟩
theorem ent_at : ∀ {es : List (Int × β)} {x : Int} {j : Nat} (h : j < es.length), es.Pairwise (fun a b => a.1 ≠ b.1) → es[j].1 = x →
    getE es x = some es[j].2 ∧ (∀ y, setE es x y = es.set j (x, y)) ∧ (∀ y, putE es x y = es.set j (x, y)) ∧ delE es x = es.eraseIdx j
  | [], _, _, h, _, _ => by simp at h
  | e :: es, x, 0, _, _, hx => by
    have hx : e.1 = x := hx
    exact ⟨by simp [getE, hx], fun y => by simp [setE, hx], fun y => by simp [putE, hx], by simp [delE, hx]⟩
  | e :: es, x, j + 1, h, hp, hx => by
    obtain ⟨hp1, hp2⟩ := List.pairwise_cons.1 hp
    have hj : j < es.length := by simpa using h
    have hx' : es[j].1 = x := by simpa using hx
    obtain ⟨h1, h2, h3, h4⟩ := ent_at hj hp2 hx'
    have hne : e.1 ≠ x := fun e0 => hp1 es[j] (List.getElem_mem hj) (e0.trans hx'.symm)
    exact ⟨by simp [getE, hne, h1], fun y => by simp [setE, hne, h2], fun y => by simp [putE, hne, h3], by simp [delE, hne, h4]⟩
theorem getE_mem : ∀ {es : List (Int × β)} {x : Int} {y : β}, getE es x = some y → (x, y) ∈ es
  | [], _, _, h => by cases h
  | e :: es, x, y, h => by
    simp only [getE] at h
    split at h
    · rename_i he; cases h; obtain ⟨a, b⟩ := e; cases he; exact .head _
    · exact .tail _ (getE_mem h)
theorem getE_none : ∀ {es : List (Int × β)} {x : Int}, getE es x = none → ∀ e ∈ es, e.1 ≠ x
  | [], _, _ => by simp
  | e :: es, x, h => by
    simp only [getE] at h
    split at h
    · cases h
    · rename_i hne
      intro e' he'
      cases he' with
      | head => exact hne
      | tail _ he' => exact getE_none h e' he'
theorem mem_setE_key : ∀ {es : List (Int × β)} {x z : Int} {y : β}, (∃ u, (z, u) ∈ setE es x y) ↔ ∃ u, (z, u) ∈ es
  | [], _, _, _ => Iff.rfl
  | (k, v) :: es, x, z, y => by
    have ih := mem_setE_key (es := es) (x := x) (z := z) (y := y)
    simp only [setE]
    split
    · rename_i he
      simp only [List.mem_cons, Prod.mk.injEq]
      constructor
      · rintro ⟨u, ⟨h1, _⟩ | h⟩
        · exact ⟨v, .inl ⟨h1.trans he.symm, rfl⟩⟩
        · exact ⟨u, .inr h⟩
      · rintro ⟨u, ⟨h1, _⟩ | h⟩
        · exact ⟨y, .inl ⟨h1.trans he, rfl⟩⟩
        · exact ⟨u, .inr h⟩
    · simp only [List.mem_cons, Prod.mk.injEq]
      constructor
      · rintro ⟨u, ⟨h1, h2⟩ | h⟩
        · exact ⟨v, .inl ⟨h1, rfl⟩⟩
        · obtain ⟨u, hu⟩ := ih.1 ⟨u, h⟩; exact ⟨u, .inr hu⟩
      · rintro ⟨u, ⟨h1, h2⟩ | h⟩
        · exact ⟨v, .inl ⟨h1, rfl⟩⟩
        · obtain ⟨u, hu⟩ := ih.2 ⟨u, h⟩; exact ⟨u, .inr hu⟩
theorem mem_putE : ∀ {es : List (Int × β)} {x : Int} {y : β}, (x, y) ∈ putE es x y
  | [], _, _ => by simp [putE]
  | e :: es, x, y => by
    simp only [putE]
    split
    · exact .head _
    · exact .tail _ mem_putE
/-! what a spec wants of them -/
theorem getE_setE : ∀ (es : List (Int × β)) (x z : Int) (y : β), getE (setE es x y) z = if x = z ∧ (getE es x).isSome = true then some y else getE es z
  | [], x, z, y => by simp [setE, getE]
  | (k, v) :: es, x, z, y => by
    simp only [setE]
    by_cases hk : k = x
    · subst hk
      simp only [if_true, getE]
      by_cases hz : k = z <;> simp [hz]
    · simp only [if_neg hk, getE, getE_setE es x z y]
      by_cases hz : k = z
      · subst hz; simp [Ne.symm hk]
      · simp [hz]
theorem getE_putE : ∀ (es : List (Int × β)) (x z : Int) (y : β), getE (putE es x y) z = if x = z then some y else getE es z
  | [], x, z, y => by simp [putE, getE]
  | (k, v) :: es, x, z, y => by
    simp only [putE]
    by_cases hk : k = x
    · subst hk
      simp only [if_true, getE]
      by_cases hz : k = z <;> simp [hz]
    · simp only [if_neg hk, getE, getE_putE es x z y]
      by_cases hz : k = z
      · subst hz; simp [Ne.symm hk]
      · simp [hz]
theorem setE_getE : ∀ (es : List (Int × β)) (x : Int) (y : β), (getE es x = none ∨ getE es x = some y) → setE es x y = es
  | [], _, _, _ => rfl
  | (k, v) :: es, x, y, h => by
    simp only [setE, getE] at h ⊢
    by_cases hk : k = x
    · subst hk; simp only [if_true] at h ⊢; rcases h with h | h <;> cases h; rfl
    · simp only [if_neg hk] at h ⊢; rw [setE_getE es x y h]
end pure

/-! ### in the machine -/
/-- One entry of a map. -/
def EntR (ok : Nat → Prop) (w : World) (kk : IntKind) (v : Ty) (s : Sub) (e : Int × v.den) (m : MapEntry) : Prop :=
  m.key = .int kk e.1 ∧ v.rd ok w (s.at [.key e.1]) e.2 (fun j => m.val.cells[j]?) ∧ m.val.cells.size = v.sz ∧ Value.isAgg m.val = v.agg
structure MapAt (ok : Nat → Prop) (w : World) (kk : IntKind) (v : Ty) (s : Sub) (es : List (Int × v.den)) (ms : Array MapEntry) (clock : Nat) : Prop where
  sz : ms.size = es.length
  st : Stamped ms clock
  df : Differ es
  en : ∀ i (h : i < es.length) (h' : i < ms.size), EntR ok w kk v s (es[i]'h) ms[i]
theorem int_key {ok : Nat → Prop} {w : World} {kk : IntKind} {x : Int} {s : Sub} {v : Value} : ((Ty.int kk).rd ok w s x (fun j => v.cells[j]?) ∧ v.cells.size = (Ty.int kk).sz ∧ Value.isAgg v = (Ty.int kk).agg) ↔ v = .int kk x := by
  constructor
  · intro ⟨h1, h2, h3⟩
    exact VRel.int_eq (ok := ok) (w := w) ⟨h1, h2, h3⟩
  · intro h; subst h
    exact ⟨rfl, rfl, rfl⟩
theorem mapC_iff {ok : Nat → Prop} {w w' : World} {kk : IntKind} {v : Ty} {s : Sub} {es : List (Int × v.den)} :
    mapC ok w w' (.int kk) v s es ↔ (s []).off = 0 ∧ ∃ b ms clock, (s []).blk = some b ∧ w'.heap[b]? = some (.map ms clock) ∧ MapAt ok w kk v s es ms clock := by
  constructor
  · rintro ⟨h0, b, ms, clock, h1, h2, h3, h4, h5, h6⟩
    refine ⟨h0, b, ms, clock, h1, h2, h3, h4, h5, fun i h h' => ?_⟩
    obtain ⟨k1, k2, k3, k4, k5, k6⟩ := h6 i h h'
    exact ⟨int_key.1 ⟨k1, k2, k3⟩, k4, k5, k6⟩
  · rintro ⟨h0, b, ms, clock, h1, h2, ⟨h3, h4, h5, h6⟩⟩
    refine ⟨h0, b, ms, clock, h1, h2, h3, h4, h5, fun i h h' => ?_⟩
    obtain ⟨k1, k2, k3, k4⟩ := h6 i h h'
    obtain ⟨j1, j2, j3⟩ := (int_key (ok := ok) (w := w) (s := Sub.none) (x := (es[i]'h).1)).2 k1
    exact ⟨j1, j2, j3, k2, k3, k4⟩
theorem differ_pw {α β : Type} {es : List (α × β)} : Differ es ↔ es.Pairwise (fun a b => a.1 ≠ b.1) := by
  rw [List.pairwise_iff_getElem]; exact Iff.rfl
variable {ok : Nat → Prop} {w : World} {kk : IntKind} {v : Ty} {s : Sub} {es : List (Int × v.den)} {ms : Array MapEntry} {clock : Nat}
theorem MapAt.isKey (M : MapAt ok w kk v s es ms clock) : ∀ m ∈ ms.toList, MapKept.IsKey (.int kk) m.key := by
  intro m hm
  obtain ⟨i, hi, e⟩ := List.getElem_of_mem hm
  have hi' : i < ms.size := by simpa using hi
  have h := (M.en i (by rw [← M.sz]; exact hi') hi').1
  have e' : ms[i] = m := by simpa using e
  rw [e'] at h; rw [h]; exact rfl
theorem MapAt.find (M : MapAt ok w kk v s es ms clock) (x : Int) :
    (Instr.findNow (.int kk) (.int kk x) ms.toList 0 = some none ∧ (∀ e ∈ es, e.1 ≠ x) ∧ ∀ m ∈ ms.toList, m.key ≠ .int kk x) ∨
    ∃ j, ∃ (h : j < es.length) (h' : j < ms.size), Instr.findNow (.int kk) (.int kk x) ms.toList 0 = some (some (j, ms[j].val)) ∧ es[j].1 = x ∧ ms[j].key = .int kk x := by
  rcases MapKept.findNow_spec (d := .int kk) (k := .int kk x) rfl ms.toList 0 M.isKey with ⟨h1, h2⟩ | ⟨j, e, h1, h2, h3⟩
  · left
    refine ⟨h1, fun e he hx => ?_, h2⟩
    obtain ⟨i, hi, e1⟩ := List.getElem_of_mem he
    have hi' : i < ms.size := by rw [M.sz]; exact hi
    have := (M.en i hi hi').1
    rw [e1, hx] at this
    exact h2 ms[i] (by simp) this
  · right
    have hj : j < ms.size := by
      rcases Nat.lt_or_ge j ms.size with h | h
      · exact h
      · rw [List.getElem?_eq_none (by simpa using h)] at h2; cases h2
    have e1 : ms[j] = e := by
      rw [List.getElem?_eq_getElem (by simpa using hj)] at h2
      simpa using h2
    have hj' : j < es.length := by rw [← M.sz]; exact hj
    refine ⟨j, hj', hj, by rw [h1, e1]; simp, ?_, by rw [e1, h3]⟩
    have := (M.en j hj' hj).1
    rw [e1, h3] at this
    simp only [Value.int.injEq] at this
    exact this.2.symm
theorem entAt_find (M : MapAt ok w kk v s es ms clock) (x : Int) {b : Nat} {w' : World} (hb : w'.heap[b]? = some (.map ms clock)) {j : Nat} (h : j < es.length) (h' : j < ms.size) (hx : es[j].1 = x) : entAt w' (some b) kk x = some ms[j].val := by
  simp only [entAt, hb, Option.map_eq_some_iff]
  refine ⟨ms[j], ?_, rfl⟩
  rw [List.find?_eq_some_iff_getElem]
  refine ⟨?_, j, by simpa using h', by simp, fun i hi => ?_⟩
  · rw [(M.en j h h').1, hx]; simp [isIntV]
  · have hi' : i < ms.size := by omega
    have hil : i < es.length := by omega
    have h1 : (ms.toList[i]'(by simpa using hi')) = ms[i] := by simp
    rw [h1, (M.en i hil hi').1]
    have := M.df i j hil h hi
    rw [hx] at this
    simp [isIntV, this]
theorem MapAt.set (M : MapAt ok w kk v s es ms clock) {x : Int} {j : Nat} (h : j < es.length) (hx : es[j].1 = x) (s' : Sub) (y : v.den) (f : MapEntry → MapEntry)
    (hf : ∀ e, (f e).key = e.key ∧ (f e).born = e.born) (hr : v.rd ok w s' y (fun i => (f (ms[j]'(by rw [M.sz]; exact h))).val.cells[i]?)) (h1 : (f (ms[j]'(by rw [M.sz]; exact h))).val.cells.size = v.sz) (h2 : Value.isAgg (f (ms[j]'(by rw [M.sz]; exact h))).val = v.agg) :
    MapAt ok w kk v (s.put [.key x] s') (es.set j (x, y)) (ms.modify j f) clock := by
  have hb : ∀ i (hi : i < (ms.modify j f).size), (ms.modify j f)[i].born = (ms[i]'(by simpa using hi)).born := by
    intro i hi
    rw [Array.getElem_modify]
    split
    · exact (hf _).2
    · rfl
  refine ⟨by simp [M.sz], ⟨fun i k hi hk hik => ?_, fun i hi => ?_⟩, fun i k hi hk hik => ?_, fun i hi hi' => ?_⟩
  · rw [hb, hb]; exact M.st.1 i k _ _ hik
  · rw [hb]; exact M.st.2 i _
  · have hil : i < es.length := by simpa using hi
    have hkl : k < es.length := by simpa using hk
    have e : ∀ n (hn : n < es.length), ((es.set j (x, y))[n]'(by simpa using hn)).1 = es[n].1 := by
      intro n hn
      rw [List.getElem_set]
      split
      · rename_i e; subst e; exact hx.symm
      · rfl
    rw [e i hil, e k hkl]
    exact M.df i k hil hkl hik
  · have hil : i < es.length := by simpa using hi
    have him : i < ms.size := by simpa using hi'
    by_cases e : j = i
    · subst e
      have e1 : (es.set j (x, y))[j] = (x, y) := by simp
      have e2 : (ms.modify j f)[j] = f ms[j] := by rw [Array.getElem_modify]; simp
      rw [e1, e2]
      refine ⟨by rw [(hf _).1, (M.en j hil him).1, hx], ?_, h1, h2⟩
      show v.rd ok w ((s.put [.key x] s').at [.key x]) y _
      rw [Sub.put_cons_at, Sub.put_nil]
      exact hr
    · have e1 : (es.set j (x, y))[i] = es[i] := by rw [List.getElem_set_ne e]
      have e2 : (ms.modify j f)[i] = ms[i] := by rw [Array.getElem_modify]; simp [e]
      rw [e1, e2]
      obtain ⟨k1, k2, k3, k4⟩ := M.en i hil him
      refine ⟨k1, ?_, k3, k4⟩
      have hne : es[i].1 ≠ x := by
        rcases Nat.lt_or_gt_of_ne e with hlt | hgt
        · have := M.df j i h hil hlt
          rw [hx] at this; exact this.symm
        · have := M.df i j hil h hgt
          rw [hx] at this; exact this
      rw [Sub.put_cons_ne _ _ (by intro e0; cases e0; exact hne rfl)]
      exact k2
theorem MapAt.push (M : MapAt ok w kk v s es ms clock) {x : Int} (hx : ∀ e ∈ es, e.1 ≠ x) (s' : Sub) (y : v.den) {V : Value}
    (hr : v.rd ok w s' y (fun i => V.cells[i]?)) (h1 : V.cells.size = v.sz) (h2 : Value.isAgg V = v.agg) :
    MapAt ok w kk v (s.put [.key x] s') (es ++ [(x, y)]) (ms.push { key := .int kk x, val := V, born := clock }) (clock + 1) := by
  refine ⟨by simp [M.sz], ⟨fun i k hi hk hik => ?_, fun i hi => ?_⟩, ?_, fun i hi hi' => ?_⟩
  · simp only [Array.getElem_push]
    have hi2 : i < ms.size + 1 := by simpa using hi
    have hk2 : k < ms.size + 1 := by simpa using hk
    split <;> split
    · exact M.st.1 i k _ _ hik
    · exact M.st.2 i _
    · omega
    · omega
  · simp only [Array.getElem_push]
    split
    · have := M.st.2 i ‹_›; omega
    · simp
  · rw [differ_pw]
    refine List.pairwise_append.2 ⟨differ_pw.1 M.df, by simp, ?_⟩
    intro a ha b hb
    simp only [List.mem_singleton] at hb
    subst hb
    exact hx a ha
  · have hi2 : i < es.length + 1 := by simpa using hi
    by_cases e : i < es.length
    · have e1 : (es ++ [(x, y)])[i] = es[i] := by rw [List.getElem_append_left e]
      have e2 : (ms.push { key := .int kk x, val := V, born := clock })[i] = ms[i]'(by rw [M.sz]; exact e) := by rw [Array.getElem_push]; simp [M.sz, e]
      rw [e1, e2]
      obtain ⟨k1, k2, k3, k4⟩ := M.en i e (by rw [M.sz]; exact e)
      refine ⟨k1, ?_, k3, k4⟩
      rw [Sub.put_cons_ne _ _ (by intro e0; cases e0; exact hx _ (List.getElem_mem e) rfl)]
      exact k2
    · have e0 : i = es.length := by omega
      subst e0
      have e1 : (es ++ [(x, y)])[es.length] = (x, y) := by simp
      have e2 : (ms.push { key := .int kk x, val := V, born := clock })[es.length]'hi' = { key := .int kk x, val := V, born := clock } := by
        rw [Array.getElem_push]; simp [M.sz]
      rw [e1, e2]
      refine ⟨rfl, ?_, h1, h2⟩
      show v.rd ok w ((s.put [.key x] s').at [.key x]) y _
      rw [Sub.put_cons_at, Sub.put_nil]
      exact hr
theorem MapAt.erase (M : MapAt ok w kk v s es ms clock) {x : Int} {j : Nat} (h : j < es.length) (hx : es[j].1 = x) (s' : Sub) :
    MapAt ok w kk v (s.put [.key x] s') (es.eraseIdx j) (ms.eraseIdxIfInBounds j) clock := by
  have hj : j < ms.size := by rw [M.sz]; exact h
  have e0 : ms.eraseIdxIfInBounds j = ms.eraseIdx j hj := by simp [Array.eraseIdxIfInBounds, hj]
  rw [e0]
  have hsz : (ms.eraseIdx j hj).size = ms.size - 1 := by simp
  have hlen : (es.eraseIdx j).length = es.length - 1 := by rw [List.length_eraseIdx]; simp [h]
  have hsz' := M.sz
  have pick : ∀ i (hi : i < (ms.eraseIdx j hj).size), ∃ k, ∃ (hk : k < ms.size), (ms.eraseIdx j hj)[i] = ms[k] ∧ ∃ (hi2 : i < (es.eraseIdx j).length) (hk2 : k < es.length), (es.eraseIdx j)[i] = es[k] ∧ k ≠ j ∧ k = if i < j then i else i + 1 := by
    intro i hi
    have hi1 : i < ms.size - 1 := by rw [← hsz]; exact hi
    by_cases hij : i < j
    · refine ⟨i, by omega, ?_, by rw [hlen]; omega, by omega, ?_, by omega, by simp [hij]⟩
      · rw [Array.getElem_eraseIdx]; simp [hij]
      · rw [List.getElem_eraseIdx]; simp [hij]
    · refine ⟨i + 1, by omega, ?_, by rw [hlen]; omega, by omega, ?_, by omega, by simp [hij]⟩
      · rw [Array.getElem_eraseIdx]; simp [hij]
      · rw [List.getElem_eraseIdx]; simp [hij]
  refine ⟨by rw [hsz, hlen, M.sz], ⟨fun i k hi hk hik => ?_, fun i hi => ?_⟩, ?_, fun i hi hi' => ?_⟩
  · obtain ⟨a, ha, e1, _, _, _, _, e2⟩ := pick i hi
    obtain ⟨c, hc, e3, _, _, _, _, e4⟩ := pick k hk
    rw [e1, e3]
    exact M.st.1 a c ha hc (by rw [e2, e4]; split <;> split <;> omega)
  · obtain ⟨a, ha, e1, _⟩ := pick i hi
    rw [e1]; exact M.st.2 a ha
  · rw [differ_pw]
    exact (differ_pw.1 M.df).sublist (List.eraseIdx_sublist _ _)
  · obtain ⟨a, ha, e1, hi2, hk2, e2, e3, _⟩ := pick i hi'
    rw [e1, e2]
    obtain ⟨k1, k2, k3, k4⟩ := M.en a hk2 ha
    refine ⟨k1, ?_, k3, k4⟩
    have hne : es[a].1 ≠ x := by
      rcases Nat.lt_or_gt_of_ne e3 with hlt | hgt
      · have := M.df a j hk2 h hlt
        rw [hx] at this; exact this
      · have := M.df j a h hk2 hgt
        rw [hx] at this; exact this.symm
    rw [Sub.put_cons_ne _ _ (by intro e0; cases e0; exact hne rfl)]
    exact k2
theorem MapAt.same (M : MapAt ok w kk v s es ms clock) {x : Int} (hx : ∀ e ∈ es, e.1 ≠ x) (s' : Sub) : MapAt ok w kk v (s.put [.key x] s') es ms clock := by
  refine ⟨M.sz, M.st, M.df, fun i h h' => ?_⟩
  obtain ⟨k1, k2, k3, k4⟩ := M.en i h h'
  refine ⟨k1, ?_, k3, k4⟩
  rw [Sub.put_cons_ne _ _ (by intro e0; cases e0; exact hx _ (List.getElem_mem h) rfl)]
  exact k2

end Go.Lift
/- What lies in a place taken out as a region, and put back: nothing turns in the machine. -/
namespace Go.Lift
open Go

/-- Some regions' blocks are shared out anew. -/
theorem RelF.regroup {cx : Cx} {φ φ' : Phi} {st : St} {a : Act} {w : World} (R : RelF cx φ st a w) (S : List Nat) (rs' : Regs) (hbase : φ'.base = φ.base)
    (hout : ∀ s, s ∉ S → look rs' s = look st.regs s ∧ φ' s = φ s)
    (hblk : ∀ s ∈ S, ∀ g', look rs' s = some g' → ∀ b, (φ' s).has b → ∃ s0 ∈ S, ∃ g0, look st.regs s0 = some g0 ∧ (φ s0).has b)
    (hinj : ∀ s ∈ S, ∀ g', look rs' s = some g' → (φ' s).inj)
    (hat : ∀ s ∈ S, ∀ g', look rs' s = some g' → g'.at (okOf st.regs φ) w (φ' s))
    (hkind : ∀ s ∈ S, ∀ g', look rs' s = some g' → FreshN cx st s ∨ ((φ s).same (φ' s) ∧ ∃ g, look st.regs s = some g ∧ SameKind g g'))
    (hsep : ∀ s ∈ S, ∀ s' ∈ S, ∀ g g' b, look rs' s = some g → look rs' s' = some g' → (φ' s).has b → (φ' s').has b → s = s')
    (hhl : ∀ s ∈ S, ∀ g', look rs' s = some g' → ∀ p m, (p, m) ∈ g'.holes → pokR g' p → ∀ gm, look rs' m = some gm → cellR w (φ' s) g' p = some (hdr (φ' m) gm))
    (htold : ∀ s ∈ S, ∀ g', look rs' s = some g' → ∀ q, ((φ' s) q).hd = false → ∃ p m, (p, m) ∈ g'.holes ∧ q = g'.base ++ p ∧ pokR g' p)
    (hht : ∀ s ∈ S, ∀ g', look rs' s = some g' → ∀ p m, (p, m) ∈ g'.holes → m ≠ s ∧ (g'.isCells = true → pokR g' p) ∧ ∃ u, ptyR g' p = some u ∧ u.link = true) :
    RelF cx φ' { st with regs := rs' } a w := by
  have L := R.lay
  have hlook : ∀ s g, s ∉ S → look rs' s = some g → look st.regs s = some g := fun s g hs h => by rw [← (hout s hs).1]; exact h
  have hold : ∀ s g b, look rs' s = some g → (φ' s).has b → ∃ s0 g0, look st.regs s0 = some g0 ∧ (φ s0).has b ∧ (s0 ∈ S ↔ s ∈ S) ∧ (s ∉ S → s0 = s) := by
    intro s g b hs hb
    by_cases h : s ∈ S
    · obtain ⟨s0, h0, g0, h1, h2⟩ := hblk s h g hs b hb
      exact ⟨s0, g0, h1, h2, by simp [h0, h], fun hn => (hn h).elim⟩
    · rw [(hout s h).2] at hb
      exact ⟨s, g, hlook s g h hs, hb, Iff.rfl, fun _ => rfl⟩
  have hm : ∀ b o, okOf st.regs φ b → w.heap[b]? = some o → okOf rs' φ' b ∧ w.heap[b]? = some o := by
    intro b o hok hh
    refine ⟨⟨fun s g hs hb => ?_, by rw [hbase]; exact hok.2⟩, hh⟩
    obtain ⟨s0, g0, h1, h2, _⟩ := hold s g b hs hb
    exact hok.1 s0 g0 h1 h2
  refine R.change hm ?_ ?_ (Kept.refl _ _ _) hbase
  · intro s g hg hf
    by_cases h : s ∈ S
    · rcases hkind s h g hg with hk | hk
      · exact (hf hk.1).elim
      · exact hk
    · rw [(hout s h).2]
      exact ⟨.rfl' _, g, hlook s g h hg, .refl g⟩
  · refine ⟨?_, ?_, ?_, ?_, ?_, ?_, ?_, ?_, ?_⟩
    · intro s g hg
      by_cases h : s ∈ S
      · exact Reg.at_mono hm (fun _ _ => rfl) (fun _ _ _ _ => rfl) (hat s h g hg)
      · rw [(hout s h).2]
        exact Reg.at_mono hm (fun _ _ => rfl) (fun _ _ _ _ => rfl) (L.rg s g (hlook s g h hg))
    · intro s g hg
      by_cases h : s ∈ S
      · exact hinj s h g hg
      · rw [(hout s h).2]; exact L.inj s g (hlook s g h hg)
    · intro s s' g g' b h1 h2 h3 h4
      by_cases h : s ∈ S <;> by_cases h' : s' ∈ S
      · exact hsep s h s' h' g g' b h1 h2 h3 h4
      all_goals
        obtain ⟨s0, g0, k1, k2, k3, k4⟩ := hold s g b h1 h3
        obtain ⟨s1, g1, j1, j2, j3, j4⟩ := hold s' g' b h2 h4
        have e := L.sep s0 s1 g0 g1 b k1 j1 k2 j2
        subst e
      · exact (h' (j3.1 (k3.2 h))).elim
      · exact (h (k3.1 (j3.2 h'))).elim
      · exact (k4 h).symm.trans (j4 h')
    · intro s g b h1 h2
      obtain ⟨s0, g0, k1, k2, _⟩ := hold s g b h1 h2
      exact L.al s0 g0 b k1 k2
    · intro s g b h1 h2
      obtain ⟨s0, g0, k1, k2, _⟩ := hold s g b h1 h2
      exact L.fr s0 g0 b k1 k2
    · intro s l h1 h2
      obtain ⟨g, hg⟩ := Option.isSome_iff_exists.1 h2
      by_cases h : s ∈ S
      · rcases hkind s h g hg with hk | ⟨k1, g0, k2, _⟩
        · exact (hk.2 l h1).elim
        · exact k1.symm.trans (L.io s l h1 (by simp [k2]))
      · rw [(hout s h).2]; exact L.io s l h1 (by simp [hlook s g h hg])
    · intro s g hg p m hpm hp gm hgm
      by_cases h : s ∈ S
      · exact hhl s h g hg p m hpm hp gm hgm
      · rw [(hout s h).2]
        have hs := hlook s g h hg
        by_cases hmS : m ∈ S
        · rcases hkind m hmS gm hgm with hk | ⟨k1, g0, k2, k3⟩
          · exact (hk.1.2.2.2 s g hs p hpm).elim
          · rw [L.hl s g hs p m hpm hp g0 k2, k3.hdr k1]
        · rw [(hout m hmS).2]
          exact L.hl s g hs p m hpm hp gm (hlook m gm hmS hgm)
    · intro s g hg q hq
      by_cases h : s ∈ S
      · exact htold s h g hg q hq
      · rw [(hout s h).2] at hq; exact L.told s g (hlook s g h hg) q hq
    · intro s g hg p m hpm
      by_cases h : s ∈ S
      · exact hht s h g hg p m hpm
      · exact L.ht s g (hlook s g h hg) p m hpm

/-! ### open -/
def Reg.withH (g : Reg) (H : Holes) : Reg :=
  match g with
  | .row t xs _ => .row t xs H
  | .box t x _ => .box t x H
  | .obox t o _ => .obox t o H
  | .mp k v es _ => .mp k v es H
theorem withH_spec (g : Reg) (H : Holes) : (g.withH H).holes = H ∧ (g.withH H).base = g.base ∧ (g.withH H).isCells = g.isCells ∧ SameKind g (g.withH H) ∧
    (∀ q, pokR (g.withH H) q ↔ pokR g q) ∧ (∀ q, ptyR (g.withH H) q = ptyR g q) ∧ (∀ l q, offR l (g.withH H) q = offR l g q) ∧ (∀ ok w w' l, (g.withH H).at2 ok w w' l ↔ g.at2 ok w w' l) ∧ (∀ w l q, cellR w l (g.withH H) q = cellR w l g q) := by
  cases g with
  | row t xs H0 =>
    refine ⟨rfl, rfl, rfl, ⟨rfl, rfl⟩, fun q => ?_, fun q => ?_, fun l q => ?_, fun _ _ _ _ => Iff.rfl, fun w l q => ?_⟩ <;> cases q with
      | nil => first | exact Iff.rfl | rfl
      | cons c q => cases c <;> first | exact Iff.rfl | rfl
  | box t x H0 =>
    refine ⟨rfl, rfl, rfl, rfl, fun q => ?_, fun q => ?_, fun l q => ?_, fun _ _ _ _ => Iff.rfl, fun w l q => ?_⟩ <;> cases q <;> first | exact Iff.rfl | rfl
  | obox t o H0 =>
    refine ⟨rfl, rfl, rfl, ?_, fun q => ?_, fun q => ?_, fun l q => ?_, fun _ _ _ _ => Iff.rfl, fun w l q => ?_⟩
    · cases o <;> exact ⟨rfl, rfl⟩
    all_goals cases q <;> first | exact Iff.rfl | rfl
  | mp k v o H0 =>
    refine ⟨rfl, rfl, rfl, ⟨rfl, rfl⟩, fun q => ?_, fun q => ?_, fun l q => ?_, fun _ _ _ _ => Iff.rfl, fun w l q => ?_⟩
    · cases k <;> cases o <;> cases q <;> first | exact Iff.rfl | (rename_i c q; cases c <;> cases q <;> exact Iff.rfl)
    · cases q with
      | nil => rfl
      | cons c q => cases c <;> cases q <;> rfl
    · cases q <;> rfl
    · cases k <;> cases q <;> first | rfl | (rename_i c q; cases c <;> cases q <;> rfl)

/-- What lies in a place, as a region. -/
def outR : (u : Ty) → u.den → Option Reg
  | .own τ, xs => some (.row τ xs [])
  | .ptr τ, o => some (.obox τ o [])
  | .map k v, o => some (.mp k v o [])
  | _, _ => none
/-- Why a place is there. -/
def pokL : Ty → List Step → List Prop
  | .pair a _, .fst :: p => pokL a p
  | .pair _ b, .snd :: p => pokL b p
  | .arr n t, .idx i :: p => (0 ≤ i) :: (i < (n : Int)) :: pokL t p
  | _, _ => []
def pokVC (g : Reg) (p : List Step) : List Prop :=
  match g with
  | .row t xs _ => match p with
    | .idx i :: p => (0 ≤ i) :: (i < (xs.length : Int)) :: pokL t p
    | _ => []
  | .box t _ _ => pokL t p
  | .obox t o _ => (o.isSome = true) :: pokL t p
  | .mp _ _ _ _ => []
theorem pokL_spec : ∀ (p : List Step) (t u : Ty), pty t p = some u → (∀ P ∈ pokL t p, P) → pok t p := by
  intro p
  induction p with
  | nil => intro t u _ _; simp [pok]
  | cons a p ih =>
    intro t u ht hv
    cases t <;> cases a <;> simp only [pty] at ht <;> try (cases ht; done)
    · exact ih _ _ ht hv
    · exact ih _ _ ht hv
    · exact ⟨hv _ (List.mem_cons_self ..), hv _ (List.mem_cons_of_mem _ (List.mem_cons_self ..)), ih _ _ ht fun P hP => hv P (List.mem_cons_of_mem _ (List.mem_cons_of_mem _ hP))⟩
theorem pokVC_spec {g : Reg} {p : List Step} {u : Ty} (ht : ptyR g p = some u) (hc : g.isCells = true) (hv : ∀ P ∈ pokVC g p, P) : pokR g p := by
  cases g with
  | mp _ _ _ _ => cases hc
  | box t x H => exact pokL_spec p t u ht hv
  | obox t o H => exact ⟨hv _ (List.mem_cons_self ..), pokL_spec p t u ht fun P hP => hv P (List.mem_cons_of_mem _ hP)⟩
  | row t xs H =>
    cases p with
    | nil => cases ht
    | cons a p =>
      cases a <;> try (cases ht; done)
      exact ⟨hv _ (List.mem_cons_self ..), hv _ (List.mem_cons_of_mem _ (List.mem_cons_self ..)), pokL_spec p t u ht fun P hP => hv P (List.mem_cons_of_mem _ (List.mem_cons_of_mem _ hP))⟩
def gopenC (rs : Regs) (r : Nat) (p : List Step) (m : Nat) : Option (List Prop × Regs) :=
  match look rs r with
  | some g => if g.isCells = true then (match ptyR g p with
    | some u => if u.link = true ∧ (g.holes.all fun q => !sameShape q.1 p) = true then (match getR g p u with
        | some y => (outR u y).map fun gm => (pokVC g p, upd (upd rs r (some (g.withH ((p, m) :: g.holes)))) m (some gm))
        | none => none) else none
    | none => none) else none
  | none => none

theorem outR_hdr {ok : Nat → Prop} {w : World} {u : Ty} {y : u.den} {gm : Reg} {s : Sub} {c : Nat → Option Value} (h : outR u y = some gm) (hs : (s []).hd = true) (hr : u.rd ok w s y c) :
    gm.at ok w s ∧ c 0 = some (hdr s gm) := by
  cases u <;> simp only [outR, Option.some.injEq] at h <;> first | (cases h; done) | subst h
  · obtain ⟨h1, h2⟩ := rd_own_iff.1 hr hs
    exact ⟨h2, h1⟩
  · obtain ⟨h1, h2⟩ := rd_ptr_iff.1 hr hs
    exact ⟨h2, h1⟩
  · obtain ⟨h1, h2⟩ := rd_map_iff.1 hr hs
    exact ⟨h2, h1⟩
theorem outR_holes {u : Ty} {y : u.den} {gm : Reg} (h : outR u y = some gm) : gm.holes = [] ∧ u.link = true := by
  cases u <;> simp only [outR, Option.some.injEq] at h <;> first | (cases h; done) | (subst h; exact ⟨rfl, rfl⟩)

theorem at_has {s : Sub} {P : List Step} {b : Nat} (h : (s.at P).has b) : s.has b := by
  obtain ⟨q, hq⟩ := h
  exact ⟨P ++ q, hq⟩
theorem at_inj {s : Sub} (P : List Step) (h : s.inj) : (s.at P).inj := fun p q b h1 h2 => List.append_cancel_left (h (P ++ p) (P ++ q) b h1 h2)
theorem put_hsub_at {s : Sub} {P : List Step} {H : Holes} (hi : s.inj) {b : Nat} (h1 : (s.put P (hsub H)).has b) (h2 : (s.at P).has b) : False := by
  obtain ⟨q, hq⟩ := h1
  obtain ⟨q', hq'⟩ := h2
  rcases put_cases s (hsub H) P q with ⟨r, _, e⟩ | ⟨hn, e⟩
  · rw [e] at hq; exact hsub_has ⟨r, hq⟩
  · rw [e] at hq
    exact hn q' (hi q (P ++ q') b hq hq')

/-- The place holds nothing that is a region's. -/
theorem hsub1_hd (m : Nat) (r : List Step) : (hsub [([], m)] r).hd = false ↔ r = [] := by
  simp only [hsub, List.any_cons, List.any_nil, Bool.or_false, Bool.not_eq_false', decide_eq_true_eq]
  exact eq_comm

theorem rd_put_open {ok : Nat → Prop} {w : World} : ∀ (p : List Step) (t : Ty) (s s' : Sub) (x : t.den) (c : Nat → Option Value) (u : Ty), t.rd ok w s x c → pty t p = some u → u.link = true → (s' []).hd = false → t.rd ok w (s.put p s') x c := by
  intro p
  induction p with
  | nil =>
    intro t s s' x c u _ ht hu hs
    simp only [pty, Option.some.injEq] at ht
    subst ht
    exact rd_open hu (by rw [Sub.put_nil]; exact hs)
  | cons a p ih =>
    intro t s s' x c u hr ht hu hs
    cases t <;> cases a <;> simp only [pty] at ht <;> try (cases ht; done)
    · refine ⟨?_, ?_⟩
      · rw [Sub.put_cons_at]; exact ih _ _ _ _ _ _ hr.1 ht hu hs
      · rw [Sub.put_cons_ne _ _ (by decide)]; exact hr.2
    · refine ⟨?_, ?_⟩
      · rw [Sub.put_cons_ne _ _ (by decide)]; exact hr.1
      · rw [Sub.put_cons_at]; exact ih _ _ _ _ _ _ hr.2 ht hu hs
    · rename_i n t i
      refine ⟨hr.1, fun k hk => ?_⟩
      by_cases e : (k : Int) = i
      · subst e
        rw [Sub.put_cons_at]; exact ih _ _ _ _ _ _ (hr.2 k hk) ht hu hs
      · rw [Sub.put_cons_ne _ _ (by intro h; cases h; exact e rfl)]; exact hr.2 k hk
theorem at_put_open {ok : Nat → Prop} {w : World} {l s' : Sub} {g : Reg} {p : List Step} {u : Ty} {H : Holes} (hat : g.at ok w l) (ht : ptyR g p = some u) (hc : g.isCells = true) (hu : u.link = true) (hs : (s' []).hd = false) :
    (g.withH H).at ok w (l.put (g.base ++ p) s') := by
  have box : ∀ t x, boxC ok w w t l x → pty t p = some u → boxC ok w w t (l.put (.deref :: p) s') x := by
    intro t x hx ht
    obtain ⟨f0, b, cs, ty, fz, f1, f2, f3, f4, f5⟩ := hx
    refine ⟨by rw [Sub.put_root]; exact f0, b, cs, ty, fz, by rw [Sub.put_root]; exact f1, f2, f3, f4, ?_⟩
    rw [Sub.put_cons_at]
    exact rd_put_open p t _ s' x _ u f5 ht hu hs
  cases g with
  | mp _ _ _ _ => cases hc
  | box t x H0 => exact box t x hat ht
  | obox t o H0 =>
    cases o with
    | none =>
      have h1 : (l []).blk = none := hat
      show ((l.put (.deref :: p) s') []).blk = none
      rw [Sub.put_root]; exact h1
    | some x => exact box t x hat ht
  | row t xs H0 =>
    cases p with
    | nil => cases ht
    | cons a p =>
      cases a <;> try (cases ht; done)
      rename_i i
      obtain ⟨hcap, h2⟩ := hat
      refine ⟨by rw [show (Reg.row t xs H0).base ++ Step.idx i :: p = Step.idx i :: p from rfl, Sub.put_root]; exact hcap, ?_⟩
      rw [show (Reg.row t xs H0).base ++ Step.idx i :: p = Step.idx i :: p from rfl, Sub.put_root]
      cases hbl : (l []).blk with
      | none => simp only [hbl] at h2 ⊢; exact h2
      | some b =>
        simp only [hbl] at h2 ⊢
        obtain ⟨cs, ty, fz, f1, f2, f3, f4⟩ := h2
        refine ⟨cs, ty, fz, f1, f2, f3, fun k hk => ?_⟩
        by_cases e : (k : Int) = i
        · subst e
          rw [Sub.put_cons_at]; exact rd_put_open p t _ s' _ _ u (f4 k hk) ht hu hs
        · rw [Sub.put_cons_ne _ _ (by intro h; cases h; exact e rfl)]; exact f4 k hk

/-- The regions of an open place, where it is there: two out of one. -/
theorem RelF.split {cx : Cx} {φ : Phi} {st : St} {a : Act} {w : World} (R : RelF cx φ st a w) {r m : Nat} {g gm : Reg} {p : List Step} {u : Ty} (hl : look st.regs r = some g) (hf : FreshN cx st m)
    (ht : ptyR g p = some u) (hu : u.link = true) (hpok : pokR g p) (hns : ∀ q k, (q, k) ∈ g.holes → q ≠ p) (hat : (g.withH ((p, m) :: g.holes)).at (okOf st.regs φ) w ((φ r).put (g.base ++ p) (hsub [([], m)]))) (hP : g.base ++ p ≠ [])
    (hgm : gm.at (okOf st.regs φ) w ((φ r).at (g.base ++ p))) (hgh : gm.holes = []) (hcell : cellR w (φ r) g p = some (hdr ((φ r).at (g.base ++ p)) gm)) :
    ∃ φ', RelF cx φ' { st with regs := upd (upd st.regs r (some (g.withH ((p, m) :: g.holes)))) m (some gm) } a w := by
  have L := R.lay
  have hrm : r ≠ m := fun e => by have := hf.1.1; rw [← e, hl] at this; cases this
  obtain ⟨w1, w2, w3, w4, w5, w6, w7, w8, w9⟩ := withH_spec g ((p, m) :: g.holes)
  have hlook : ∀ s, look (upd (upd st.regs r (some (g.withH ((p, m) :: g.holes)))) m (some gm)) s = if m = s then some gm else if r = s then some (g.withH ((p, m) :: g.holes)) else look st.regs s := fun s => by rw [look_upd, look_upd]
  have hsame : (φ r).same ((φ r).put (g.base ++ p) (hsub [([], m)])) := Sub.put_same hP
  have hcongr : ∀ q, cellR w ((φ r).put (g.base ++ p) (hsub [([], m)])) g q = cellR w (φ r) g q := fun q => by
    have e1 := hsame.blk
    have e2 := hsame.off
    unfold cellR
    split <;> first | rw [← e1, ← e2] | rw [← e1] | rfl
  refine ⟨setLoc (setLoc φ r ((φ r).put (g.base ++ p) (hsub [([], m)]))) m ((φ r).at (g.base ++ p)), R.regroup [r, m] _ rfl ?_ ?_ ?_ ?_ ?_ ?_ ?_ ?_ ?_⟩
  · intro s hs
    simp only [List.mem_cons, List.not_mem_nil, or_false, not_or] at hs
    rw [hlook, if_neg (Ne.symm hs.2), if_neg (Ne.symm hs.1), setLoc_ne _ _ hs.2, setLoc_ne _ _ hs.1]
    exact ⟨rfl, rfl⟩
  · intro s hs g' hg' b hb
    refine ⟨r, by simp, g, hl, ?_⟩
    by_cases e : s = m
    · subst e; rw [setLoc_same] at hb; exact at_has hb
    · have e2 : s = r := by simpa [e] using hs
      subst e2
      rw [setLoc_ne _ _ e, setLoc_same] at hb
      exact put_hsub_has hb
  · intro s hs g' hg'
    by_cases e : s = m
    · subst e; rw [setLoc_same]; exact at_inj _ (L.inj r g hl)
    · have e2 : s = r := by simpa [e] using hs
      subst e2
      rw [setLoc_ne _ _ e, setLoc_same]; exact put_hsub_inj (L.inj _ g hl)
  · intro s hs g' hg'
    rw [hlook] at hg'
    by_cases e : s = m
    · subst e
      rw [if_pos rfl] at hg'; cases hg'
      rw [setLoc_same]; exact hgm
    · have e2 : s = r := by simpa [e] using hs
      subst e2
      rw [if_neg (Ne.symm e), if_pos rfl] at hg'; cases hg'
      rw [setLoc_ne _ _ e, setLoc_same]; exact hat
  · intro s hs g' hg'
    rw [hlook] at hg'
    by_cases e : s = m
    · subst e; exact .inl hf
    · have e2 : s = r := by simpa [e] using hs
      subst e2
      rw [if_neg (Ne.symm e), if_pos rfl] at hg'; cases hg'
      right
      rw [setLoc_ne _ _ e, setLoc_same]
      exact ⟨hsame, g, hl, w4⟩
  · have key : ∀ b, ((φ r).put (g.base ++ p) (hsub [([], m)])).has b → ((φ r).at (g.base ++ p)).has b → False := fun b h1 h2 => put_hsub_at (L.inj r g hl) h1 h2
    intro s hs s' hs' g1 g2 b _ _ h1 h2
    by_cases e : s = m <;> by_cases e' : s' = m
    · rw [e, e']
    · have e2 : s' = r := by simpa [e'] using hs'
      subst e; subst e2
      rw [setLoc_same] at h1
      rw [setLoc_ne _ _ e', setLoc_same] at h2
      exact (key b h2 h1).elim
    · have e2 : s = r := by simpa [e] using hs
      subst e'; subst e2
      rw [setLoc_same] at h2
      rw [setLoc_ne _ _ e, setLoc_same] at h1
      exact (key b h1 h2).elim
    · have e2 : s = r := by simpa [e] using hs
      have e3 : s' = r := by simpa [e'] using hs'
      rw [e2, e3]
  · intro s hs g' hg' q k hqk hq gk hgk
    rw [hlook] at hg'
    by_cases e : s = m
    · subst e
      rw [if_pos rfl] at hg'; cases hg'
      rw [hgh] at hqk; cases hqk
    · have e2 : s = r := by simpa [e] using hs
      subst e2
      rw [if_neg (Ne.symm e), if_pos rfl] at hg'; cases hg'
      rw [setLoc_ne _ _ e, setLoc_same, w9, hcongr]
      rw [w1] at hqk
      rcases List.mem_cons.1 hqk with hqk | hqk
      · cases hqk
        rw [hlook, if_pos rfl] at hgk; cases hgk
        rw [setLoc_same]; exact hcell
      · have hkm : k ≠ m := fun e => hf.1.2.2.2 s g hl q (e ▸ hqk)
        have hks : k ≠ s := (L.ht s g hl q k hqk).1
        rw [hlook, if_neg (Ne.symm hkm), if_neg (Ne.symm hks)] at hgk
        rw [setLoc_ne _ _ hkm, setLoc_ne _ _ hks]
        exact L.hl s g hl q k hqk ((w5 q).1 hq) gk hgk
  · intro s hs g' hg' q hq
    rw [hlook] at hg'
    by_cases e : s = m
    · subst e
      rw [if_pos rfl] at hg'; cases hg'
      rw [setLoc_same] at hq
      exfalso
      -- behind a place that was shut nothing is open
      obtain ⟨p0, k, k1, k2, k3⟩ := L.told r g hl (g.base ++ p ++ q) hq
      obtain ⟨_, _, v0, k4, k5⟩ := L.ht r g hl p0 k k1
      rw [List.append_assoc] at k2
      have k2 := List.append_cancel_left k2
      subst k2
      cases q with
      | nil => rw [List.append_nil] at k1; exact hns p k k1 rfl
      | cons c q =>
        have : ∀ (g : Reg), ptyR g p = some u → ptyR g (p ++ c :: q) = some v0 → False := by
          intro g ht k4
          cases hc : g.isCells with
          | true => rw [ptyR_app hc ht] at k4; cases u <;> cases c <;> first | (cases hu; done) | (cases k4; done)
          | false =>
            cases g <;> first | (cases hc; done) | skip
            cases p with
            | nil => cases ht
            | cons a p =>
              cases a <;> cases p <;> first | (cases ht; done) | (cases k4; done)
        exact this g ht k4
    · have e2 : s = r := by simpa [e] using hs
      subst e2
      rw [if_neg (Ne.symm e), if_pos rfl] at hg'; cases hg'
      rw [setLoc_ne _ _ e, setLoc_same] at hq
      rw [w1, w2]
      rcases put_cases (φ s) (hsub [([], m)]) (g.base ++ p) q with ⟨x, es, e0⟩ | ⟨_, e0⟩
      · rw [e0] at hq
        have := (hsub1_hd m x).1 hq
        subst this
        exact ⟨p, m, List.mem_cons_self .., by rw [es, List.append_nil], (w5 p).2 hpok⟩
      · rw [e0] at hq
        obtain ⟨p0, k, k1, k2, k3⟩ := L.told s g hl q hq
        exact ⟨p0, k, List.mem_cons_of_mem _ k1, k2, (w5 p0).2 k3⟩
  · intro s hs g' hg' q k hqk
    rw [hlook] at hg'
    by_cases e : s = m
    · subst e
      rw [if_pos rfl] at hg'; cases hg'
      rw [hgh] at hqk; cases hqk
    · have e2 : s = r := by simpa [e] using hs
      subst e2
      rw [if_neg (Ne.symm e), if_pos rfl] at hg'; cases hg'
      rw [w1] at hqk
      rw [w6]
      rcases List.mem_cons.1 hqk with hqk | hqk
      · cases hqk; exact ⟨Ne.symm e, fun _ => (w5 p).2 hpok, u, ht, hu⟩
      · obtain ⟨a1, a2, a3⟩ := L.ht s g hl q k hqk
        exact ⟨a1, fun hc => (w5 q).2 (a2 (w3 ▸ hc)), a3⟩

theorem gopenC_sound {cx : Cx} {φ : Phi} {st : St} {a : Act} {w : World} (R : RelF cx φ st a w) {r m : Nat} {p : List Step} {vc : List Prop} {rs' : Regs} (hf : FreshN cx st m)
    (h : gopenC st.regs r p m = some (vc, rs')) (hvc : ∀ P ∈ vc, P) : ∃ φ', RelF cx φ' { st with regs := rs' } a w := by
  have L := R.lay
  unfold gopenC at h
  split at h
  · rename_i g hl
    split at h
    · rename_i hc
      split at h
      · rename_i u ht
        split at h
        · rename_i hh
          obtain ⟨hu, hns⟩ := hh
          split at h
          · rename_i y hy
            rw [Option.map_eq_some_iff] at h
            obtain ⟨gm, hgm, e⟩ := h
            cases e
            have hpok := pokVC_spec ht hc hvc
            obtain ⟨b, cs, ty, fz, f1, f2, f3, f4, f5, _⟩ := place_of (L.rg r g hl) hpok ht hc
            have hns' : ∀ q k, (q, k) ∈ g.holes → q ≠ p := fun q k hq e => by
              have := List.all_eq_true.1 hns _ hq
              rw [e, sameShape_refl] at this; cases this
            have hhd : ((φ r) (g.base ++ p)).hd = true := by
              cases hx : ((φ r) (g.base ++ p)).hd with
              | true => rfl
              | false =>
                obtain ⟨p0, k, k1, k2, _⟩ := L.told r g hl _ hx
                exact (hns' p0 k k1 (List.append_cancel_left k2).symm).elim
            have hhd' : (((φ r).at (g.base ++ p)) []).hd = true := by simpa [Sub.at] using hhd
            obtain ⟨g1, g2⟩ := outR_hdr hgm hhd' (f5 y hy)
            refine R.split hl hf ht hu hpok hns' (at_put_open (L.rg r g hl) ht hc hu (by simp [hsub])) (base_ne ht hc) g1 (outR_holes hgm).1 ?_
            rw [cellR_off hc ht, f1]
            simpa [cellAt, f2] using g2
          · cases h
        · cases h
      · cases h
    · cases h
  · cases h

/-! maps -/
/-- What lies behind a key, or nothing. -/
def outE : (u : Ty) → Option u.den → Option Reg
  | .own τ, o => some (.row τ (o.getD []) [])
  | .ptr τ, o => some (.obox τ (o.getD none) [])
  | .map k v, o => some (.mp k v (o.getD none) [])
  | _, _ => none
def gopenM (rs : Regs) (r : Nat) (p : List Step) (m : Nat) : Option (List Prop × Regs) :=
  match look rs r with
  | some (.mp (.int kk) v o []) => match p with
    | [.key x] => (outE v (getO o x)).map fun gm => ([], upd (upd rs r (some (.mp (.int kk) v o [([.key x], m)]))) m (some gm))
    | _ => none
  | _ => none
theorem outE_some {u : Ty} {y : u.den} {gm : Reg} (h : outE u (some y) = some gm) : outR u y = some gm := by
  cases u <;> simp only [outE, outR, Option.getD_some] at h ⊢ <;> first | exact h | cases h
theorem outE_none {u : Ty} {gm : Reg} (h : outE u none = some gm) : u.link = true ∧ gm.holes = [] ∧ ∀ ok w, gm.at ok w (mkSub none 0 0) := by
  cases u <;> simp only [outE, Option.getD_none, Option.some.injEq] at h <;> first | (cases h; done) | subst h
  · exact ⟨rfl, rfl, fun _ _ => ⟨Nat.le_refl _, rfl⟩⟩
  · exact ⟨rfl, rfl, fun _ _ => rfl⟩
  · exact ⟨rfl, rfl, fun _ _ => rfl⟩
/-- An open place that is not there. -/
theorem RelF.addNone {cx : Cx} {φ : Phi} {st : St} {a : Act} {w : World} (R : RelF cx φ st a w) {r m : Nat} {g gm : Reg} {p : List Step} {u : Ty} (hl : look st.regs r = some g) (hf : FreshN cx st m)
    (ht : ptyR g p = some u) (hu : u.link = true) (hc : g.isCells = false) (hpok : ¬ pokR g p) (hgm : ∀ ok w, gm.at ok w (mkSub none 0 0)) (hgh : gm.holes = []) :
    ∃ φ', RelF cx φ' { st with regs := upd (upd st.regs r (some (g.withH ((p, m) :: g.holes)))) m (some gm) } a w := by
  have L := R.lay
  have hrm : r ≠ m := fun e => by have := hf.1.1; rw [← e, hl] at this; cases this
  obtain ⟨w1, w2, w3, w4, w5, w6, w7, w8, w9⟩ := withH_spec g ((p, m) :: g.holes)
  have hlook : ∀ s, look (upd (upd st.regs r (some (g.withH ((p, m) :: g.holes)))) m (some gm)) s = if m = s then some gm else if r = s then some (g.withH ((p, m) :: g.holes)) else look st.regs s := fun s => by rw [look_upd, look_upd]
  have hS : ∀ s g', s ∈ [r, m] → look (upd (upd st.regs r (some (g.withH ((p, m) :: g.holes)))) m (some gm)) s = some g' → (s = m ∧ g' = gm) ∨ (s = r ∧ g' = g.withH ((p, m) :: g.holes)) := by
    intro s g' hs h
    rw [hlook] at h
    by_cases e : m = s
    · rw [if_pos e] at h; cases h; exact .inl ⟨e.symm, rfl⟩
    · rw [if_neg e] at h
      have e2 : s = r := by simpa [Ne.symm e] using hs
      rw [if_pos e2.symm] at h; cases h
      exact .inr ⟨e2, rfl⟩
  refine ⟨setLoc φ m (mkSub none 0 0), R.regroup [r, m] _ rfl ?_ ?_ ?_ ?_ ?_ ?_ ?_ ?_ ?_⟩
  · intro s hs
    simp only [List.mem_cons, List.not_mem_nil, or_false, not_or] at hs
    rw [hlook, if_neg (Ne.symm hs.2), if_neg (Ne.symm hs.1), setLoc_ne _ _ hs.2]
    exact ⟨rfl, rfl⟩
  · intro s hs g' hg' b hb
    rcases hS s g' hs hg' with ⟨rfl, rfl⟩ | ⟨rfl, rfl⟩
    · rw [setLoc_same] at hb; cases mkSub_has.1 hb
    · rw [setLoc_ne _ _ hrm] at hb; exact ⟨s, by simp, g, hl, hb⟩
  · intro s hs g' hg'
    rcases hS s g' hs hg' with ⟨rfl, rfl⟩ | ⟨rfl, rfl⟩
    · rw [setLoc_same]; exact mkSub_inj _ _ _
    · rw [setLoc_ne _ _ hrm]; exact L.inj s g hl
  · intro s hs g' hg'
    rcases hS s g' hs hg' with ⟨rfl, rfl⟩ | ⟨rfl, rfl⟩
    · rw [setLoc_same]; exact hgm _ _
    · rw [setLoc_ne _ _ hrm]; exact (w8 _ _ _ _).2 (L.rg s g hl)
  · intro s hs g' hg'
    rcases hS s g' hs hg' with ⟨rfl, rfl⟩ | ⟨rfl, rfl⟩
    · exact .inl hf
    · rw [setLoc_ne _ _ hrm]; exact .inr ⟨.rfl' _, g, hl, w4⟩
  · intro s hs s' hs' g1 g2 b h1 h2 h3 h4
    rcases hS s g1 hs h1 with ⟨rfl, rfl⟩ | ⟨rfl, rfl⟩
    · rw [setLoc_same] at h3; cases mkSub_has.1 h3
    · rcases hS s' g2 hs' h2 with ⟨rfl, rfl⟩ | ⟨rfl, rfl⟩
      · rw [setLoc_same] at h4; cases mkSub_has.1 h4
      · rfl
  · intro s hs g' hg' q k hqk hq gk hgk
    rcases hS s g' hs hg' with ⟨rfl, rfl⟩ | ⟨rfl, rfl⟩
    · rw [hgh] at hqk; cases hqk
    · rw [w1] at hqk
      rcases List.mem_cons.1 hqk with hqk | hqk
      · cases hqk; exact (hpok ((w5 p).1 hq)).elim
      · have hkm : k ≠ m := fun e => hf.1.2.2.2 s g hl q (e ▸ hqk)
        have hks : k ≠ s := (L.ht s g hl q k hqk).1
        rw [hlook, if_neg (Ne.symm hkm), if_neg (Ne.symm hks)] at hgk
        rw [setLoc_ne _ _ hrm, setLoc_ne _ _ hkm, w9]
        exact L.hl s g hl q k hqk ((w5 q).1 hq) gk hgk
  · intro s hs g' hg' q hq
    rcases hS s g' hs hg' with ⟨rfl, rfl⟩ | ⟨rfl, rfl⟩
    · rw [setLoc_same, mkSub_hd] at hq; cases hq
    · rw [setLoc_ne _ _ hrm] at hq
      obtain ⟨p0, k, k1, k2, k3⟩ := L.told s g hl q hq
      exact ⟨p0, k, by rw [w1]; exact List.mem_cons_of_mem _ k1, by rw [w2]; exact k2, (w5 p0).2 k3⟩
  · intro s hs g' hg' q k hqk
    rcases hS s g' hs hg' with ⟨rfl, rfl⟩ | ⟨rfl, rfl⟩
    · rw [hgh] at hqk; cases hqk
    · rw [w1] at hqk
      rw [w6]
      rcases List.mem_cons.1 hqk with hqk | hqk
      · cases hqk; exact ⟨Ne.symm hrm, fun h => (by rw [w3, hc] at h; cases h), u, ht, hu⟩
      · obtain ⟨a1, a2, a3⟩ := L.ht s g hl q k hqk
        exact ⟨a1, fun hc => (w5 q).2 (a2 (w3 ▸ hc)), a3⟩
theorem agg_cells {v : Value} (h : Value.isAgg v = false) : v.cells[0]? = some v := by
  cases v <;> first | rfl | cases h
theorem gopenM_sound {cx : Cx} {φ : Phi} {st : St} {a : Act} {w : World} (R : RelF cx φ st a w) {r m : Nat} {p : List Step} {vc : List Prop} {rs' : Regs} (hf : FreshN cx st m)
    (h : gopenM st.regs r p m = some (vc, rs')) : ∃ φ', RelF cx φ' { st with regs := rs' } a w := by
  have L := R.lay
  unfold gopenM at h
  split at h
  · rename_i kk v o hl
    split at h
    · rename_i x
      rw [Option.map_eq_some_iff] at h
      obtain ⟨gm, hgm, e⟩ := h
      cases e
      cases hge : getO o x with
      | none =>
        rw [hge] at hgm
        obtain ⟨h1, h2, h3⟩ := outE_none hgm
        refine R.addNone (g := .mp (.int kk) v o []) (p := [.key x]) hl hf rfl h1 rfl ?_ h3 h2
        cases o with
        | none => exact fun h => h
        | some es =>
          rintro ⟨y, hy⟩
          exact getE_none hge _ hy rfl
      | some y =>
        rw [hge] at hgm
        have hgm' := outE_some hgm
        cases o with
        | none => cases hge
        | some es =>
          have hge : getE es x = some y := hge
          have hat := L.rg r _ hl
          obtain ⟨h0, b, ms, clock, e1, e2, M⟩ := mapC_iff.1 hat
          have hhd : ((φ r) [.key x]).hd = true := by
            cases hx : ((φ r) [.key x]).hd with
            | true => rfl
            | false => obtain ⟨p0, k, k1, _⟩ := L.told r _ hl _ hx; cases k1
          rcases M.find x with ⟨_, h2, _⟩ | ⟨j, hj, hj', _, hx, _⟩
          · exact (h2 _ (getE_mem hge) rfl).elim
          · have hy : es[j].2 = y := by
              have := (ent_at hj (differ_pw.1 M.df) hx).1
              rw [hge] at this; cases this; rfl
            obtain ⟨k1, k2, k3, k4⟩ := M.en j hj hj'
            rw [hx] at k2
            have k2' : v.rd (okOf st.regs φ) w ((φ r).at [.key x]) y (fun i => ms[j].val.cells[i]?) := by
              rw [← hy]; exact k2
            obtain ⟨g1, g2⟩ := outR_hdr (s := (φ r).at [.key x]) hgm' (by simpa [Sub.at] using hhd) k2'
            have hlk := (outR_holes hgm').2
            have hval : ms[j].val = hdr ((φ r).at [.key x]) gm := by
              have h5 := agg_cells (k4.trans (link_sz hlk).2.1)
              rw [h5] at g2; exact Option.some.inj g2
            refine R.split (g := .mp (.int kk) v (some es) []) (p := [.key x]) hl hf rfl hlk ⟨y, getE_mem hge⟩ (fun q k h => by cases h) ?_ (by simp [Reg.base]) g1 (outR_holes hgm').1 ?_
            · refine mapC_iff.2 ⟨by simpa [Reg.base, Sub.put_root] using h0, b, ms, clock, by simpa [Reg.base, Sub.put_root] using e1, e2, M.sz, M.st, M.df, fun i hi hi' => ?_⟩
              obtain ⟨n1, n2, n3, n4⟩ := M.en i hi hi'
              refine ⟨n1, ?_, n3, n4⟩
              show v.rd _ _ (((φ r).put [.key x] (hsub [([], m)])).at [.key es[i].1]) _ _
              by_cases e : es[i].1 = x
              · rw [e, Sub.put_cons_at, Sub.put_nil]
                exact rd_open hlk (by simp [hsub])
              · rw [Sub.put_cons_ne _ _ (by intro h; cases h; exact e rfl)]; exact n2
            · show entAt w (φ r).blk kk x = _
              rw [show (φ r).blk = some b from e1, entAt_find M x e2 hj hj' hx, hval]
              rfl
    · cases h
  · cases h
def gopen (rs : Regs) (r : Nat) (p : List Step) (m : Nat) : Option (List Prop × Regs) :=
  match look rs r with
  | some g => if g.isCells = true then gopenC rs r p m else gopenM rs r p m
  | none => none
theorem gopen_sound {cx : Cx} {φ : Phi} {st : St} {a : Act} {w : World} (R : RelF cx φ st a w) {r m : Nat} {p : List Step} {vc : List Prop} {rs' : Regs} (hf : FreshN cx st m)
    (h : gopen st.regs r p m = some (vc, rs')) (hvc : ∀ P ∈ vc, P) : ∃ φ', RelF cx φ' { st with regs := rs' } a w := by
  unfold gopen at h
  split at h
  · split at h
    · exact gopenC_sound R hf h hvc
    · exact gopenM_sound R hf h
  · cases h

/-! ### shut -/
/-- A region as what lies in a place. -/
def inR (u : Ty) (gm : Reg) : Option u.den :=
  match u with
  | .own τ => match gm with
    | .row τ' xs _ => castTy (.own τ') (.own τ) xs
    | _ => none
  | .ptr τ => match gm with
    | .box τ' x _ => castTy (.ptr τ') (.ptr τ) (some x)
    | .obox τ' o _ => castTy (.ptr τ') (.ptr τ) o
    | _ => none
  | .map k v => match gm with
    | .mp k' v' o _ => castTy (.map k' v') (.map k v) o
    | _ => none
  | _ => none
theorem inR_rd {ok : Nat → Prop} {w : World} {u : Ty} {gm : Reg} {y : u.den} {s : Sub} {c : Nat → Option Value} (h : inR u gm = some y) (hat : gm.at ok w s) (hc : c 0 = some (hdr s gm)) : u.link = true ∧ u.rd ok w s y c := by
  unfold inR at h
  split at h
  · split at h
    · obtain ⟨e1, e2⟩ := castTy_some h
      cases e1; subst e2
      exact ⟨rfl, rd_own_iff.2 fun _ => ⟨hc, hat⟩⟩
    · cases h
  · split at h
    · obtain ⟨e1, e2⟩ := castTy_some h
      cases e1; subst e2
      exact ⟨rfl, rd_ptr_iff.2 fun _ => ⟨hc, hat⟩⟩
    · obtain ⟨e1, e2⟩ := castTy_some h
      cases e1; subst e2
      exact ⟨rfl, rd_ptr_iff.2 fun _ => ⟨hc, hat⟩⟩
    · cases h
  · split at h
    · obtain ⟨e1, e2⟩ := castTy_some h
      cases e1; subst e2
      exact ⟨rfl, rd_map_iff.2 fun _ => ⟨hc, hat⟩⟩
    · cases h
  · cases h
def notM (m : Nat) (H : Holes) : Holes := H.filter fun q => !(Nat.beq q.2 m)
def onM (m : Nat) (H : Holes) : Holes := H.filter fun q => Nat.beq q.2 m
def gcloseC (rs : Regs) (r m : Nat) : Option Regs :=
  match look rs r with
  | some g => match look rs m with
    | some gm => if g.isCells = true ∧ gm.holes.isEmpty = true then (match onM m g.holes with
      | [(p, _)] => match ptyR g p with
        | some u => match inR u gm with
          | some y => (setR g p u y (notM m g.holes)).map fun g' => drop (upd rs r (some g')) m
          | none => none
        | none => none
      | _ => none) else none
    | none => none
  | none => none

theorem put_has {s s' : Sub} {P : List Step} {b : Nat} (h : (s.put P s').has b) : s.has b ∨ s'.has b := by
  obtain ⟨q, hq⟩ := h
  rcases put_cases s s' P q with ⟨r, _, e⟩ | ⟨_, e⟩
  · rw [e] at hq; exact .inr ⟨r, hq⟩
  · rw [e] at hq; exact .inl ⟨q, hq⟩
theorem put_inj {s s' : Sub} {P : List Step} (h : s.inj) (h' : s'.inj) (hd : ∀ b, s.has b → s'.has b → False) : (s.put P s').inj := by
  intro p q b h1 h2
  rcases put_cases s s' P p with ⟨r, e1, e⟩ | ⟨_, e⟩ <;> rw [e] at h1 <;> rcases put_cases s s' P q with ⟨r', e2, e'⟩ | ⟨_, e'⟩ <;> rw [e'] at h2
  · rw [e1, e2, h' r r' b h1 h2]
  · exact (hd b ⟨q, h2⟩ ⟨r, h1⟩).elim
  · exact (hd b ⟨p, h1⟩ ⟨r', h2⟩).elim
  · exact h p q b h1 h2

/-- Two regions made one. -/
theorem RelF.join' {cx : Cx} {φ : Phi} {st : St} {a : Act} {w : World} (R : RelF cx φ st a w) {r m : Nat} {g gm g' : Reg} {p : List Step} (hl : look st.regs r = some g) (hm : look st.regs m = some gm) (hrm : m ≠ r)
    (hgh : gm.holes = []) (hon : onM m g.holes = [(p, m)]) (hg' : g'.holes = notM m g.holes) (hk : SameKind g g') (hb : g'.base = g.base) (hcl : g'.isCells = g.isCells)
    (hpk : ∀ q, pokR g' q ↔ pokR g q) (hpt : ∀ q, ptyR g' q = ptyR g q) (hcr : ∀ q v, ptyR g q = some v → cellR w (φ r) g' q = cellR w (φ r) g q) (hP : g.base ++ p ≠ [])
    (hat : g'.at (okOf st.regs φ) w ((φ r).put (g.base ++ p) (φ m))) : ∃ φ', (∀ s, s ≠ r → φ' s = φ s) ∧ RelF cx φ' { st with regs := drop (upd st.regs r (some g')) m } a w := by
  have L := R.lay
  have hlook : ∀ s, look (drop (upd st.regs r (some g')) m) s = if m = s then none else if r = s then some g' else look st.regs s := fun s => by rw [look_drop, look_upd]
  have hsame : (φ r).same ((φ r).put (g.base ++ p) (φ m)) := Sub.put_same hP
  have hcongr : ∀ q, cellR w ((φ r).put (g.base ++ p) (φ m)) g' q = cellR w (φ r) g' q := fun q => by
    have e1 := hsame.blk
    have e2 := hsame.off
    unfold cellR
    split <;> first | rw [← e1, ← e2] | rw [← e1] | rfl
  have hdis : ∀ b, (φ r).has b → (φ m).has b → False := fun b h1 h2 => hrm (L.sep m r gm g b hm hl h2 h1)
  have honly : ∀ q, (q, m) ∈ g.holes → q = p := fun q hq => by
    have : (q, m) ∈ onM m g.holes := List.mem_filter.2 ⟨hq, Nat.beq_refl m⟩
    rw [hon] at this
    simpa using this
  have hnot : ∀ q k, (q, k) ∈ notM m g.holes ↔ (q, k) ∈ g.holes ∧ k ≠ m := fun q k => by
    simp only [notM, List.mem_filter]
    have : (!(Nat.beq k m)) = true ↔ k ≠ m := by
      cases h : Nat.beq k m with
      | true => simp [Nat.eq_of_beq_eq_true h]
      | false => simp [Nat.ne_of_beq_eq_false h]
    rw [this]
  have hS : ∀ s g0, s ∈ [r, m] → look (drop (upd st.regs r (some g')) m) s = some g0 → s = r ∧ g0 = g' := by
    intro s g0 hs h
    rw [hlook] at h
    by_cases e : m = s
    · rw [if_pos e] at h; cases h
    · rw [if_neg e] at h
      have e2 : s = r := by simpa [Ne.symm e] using hs
      rw [e2, if_pos rfl] at h; cases h
      exact ⟨e2, rfl⟩
  refine ⟨setLoc φ r ((φ r).put (g.base ++ p) (φ m)), fun s hs => setLoc_ne _ _ hs, R.regroup [r, m] _ rfl ?_ ?_ ?_ ?_ ?_ ?_ ?_ ?_ ?_⟩
  · intro s hs
    simp only [List.mem_cons, List.not_mem_nil, or_false, not_or] at hs
    rw [hlook, if_neg (Ne.symm hs.2), if_neg (Ne.symm hs.1), setLoc_ne _ _ hs.1]
    exact ⟨rfl, rfl⟩
  · intro s hs g0 hg0 b hbb
    obtain ⟨rfl, rfl⟩ := hS s g0 hs hg0
    rw [setLoc_same] at hbb
    rcases put_has hbb with h | h
    · exact ⟨s, by simp, g, hl, h⟩
    · exact ⟨m, by simp, gm, hm, h⟩
  · intro s hs g0 hg0
    obtain ⟨rfl, rfl⟩ := hS s g0 hs hg0
    rw [setLoc_same]
    exact put_inj (L.inj s g hl) (L.inj m gm hm) hdis
  · intro s hs g0 hg0
    obtain ⟨rfl, rfl⟩ := hS s g0 hs hg0
    rw [setLoc_same]; exact hat
  · intro s hs g0 hg0
    obtain ⟨rfl, rfl⟩ := hS s g0 hs hg0
    rw [setLoc_same]; exact .inr ⟨hsame, g, hl, hk⟩
  · intro s hs s' hs' g1 g2 b h1 h2 _ _
    rw [(hS s g1 hs h1).1, (hS s' g2 hs' h2).1]
  · intro s hs g0 hg0 q k hqk hq gk hgk
    obtain ⟨rfl, rfl⟩ := hS s g0 hs hg0
    rw [hg', hnot] at hqk
    obtain ⟨k1, k2⟩ := hqk
    have hks : k ≠ s := (L.ht s g hl q k k1).1
    rw [hlook, if_neg (Ne.symm k2), if_neg (Ne.symm hks)] at hgk
    obtain ⟨_, _, v0, v1, _⟩ := L.ht s g hl q k k1
    rw [setLoc_same, setLoc_ne _ _ hks, hcongr, hcr q v0 v1]
    exact L.hl s g hl q k k1 ((hpk q).1 hq) gk hgk
  · intro s hs g0 hg0 q hq
    obtain ⟨rfl, rfl⟩ := hS s g0 hs hg0
    rw [setLoc_same] at hq
    rw [hg', hb]
    rcases put_cases (φ s) (φ m) (g.base ++ p) q with ⟨x, es, e0⟩ | ⟨hn, e0⟩
    · rw [e0] at hq
      obtain ⟨p0, k, k1, _⟩ := L.told m gm hm x hq
      rw [hgh] at k1; cases k1
    · rw [e0] at hq
      obtain ⟨p0, k, k1, k2, k3⟩ := L.told s g hl q hq
      refine ⟨p0, k, (hnot _ _).2 ⟨k1, fun e => ?_⟩, k2, (hpk p0).2 k3⟩
      subst e
      have := honly p0 k1
      subst this
      exact hn [] (by rw [k2, List.append_nil])
  · intro s hs g0 hg0 q k hqk
    obtain ⟨rfl, rfl⟩ := hS s g0 hs hg0
    rw [hg', hnot] at hqk
    obtain ⟨a1, a2, a3⟩ := L.ht s g hl q k hqk.1
    exact ⟨a1, fun hc => (hpk q).2 (a2 (hcl ▸ hc)), by rw [hpt]; exact a3⟩

theorem gcloseC_sound' {cx : Cx} {φ : Phi} {st : St} {a : Act} {w : World} (R : RelF cx φ st a w) {r m : Nat} {rs' : Regs}
    (h : gcloseC st.regs r m = some rs') : ∃ φ', (∀ s, s ≠ r → φ' s = φ s) ∧ RelF cx φ' { st with regs := rs' } a w := by
  have L := R.lay
  unfold gcloseC at h
  split at h
  · rename_i g hl
    split at h
    · rename_i gm hm
      split at h
      · rename_i hc
        obtain ⟨hc, hgh⟩ := hc
        have hgh : gm.holes = [] := by simpa using hgh
        split at h
        · rename_i p k hon
          have hk : k = m ∧ (p, m) ∈ g.holes := by
            have : (p, k) ∈ onM m g.holes := by rw [hon]; simp
            obtain ⟨h1, h2⟩ := List.mem_filter.1 this
            have : k = m := Nat.eq_of_beq_eq_true h2
            exact ⟨this, this ▸ h1⟩
          obtain ⟨rfl, hpm⟩ := hk
          split at h
          · rename_i u ht
            split at h
            · rename_i y hy
              rw [Option.map_eq_some_iff] at h
              obtain ⟨g', hg', e⟩ := h
              subst e
              obtain ⟨hkr, hpok, _⟩ := L.ht r g hl p k hpm
              have hpok := hpok hc
              obtain ⟨b, cs, ty, fz, f1, f2, f3, f4, _, f6⟩ := place_of (L.rg r g hl) hpok ht hc
              have hcell := L.hl r g hl p k hpm hpok gm hm
              rw [cellR_off hc ht, f1] at hcell
              have hcell' : cs[offR (φ r) g p]? = some (hdr (φ k) gm) := by simpa [cellAt, f2] using hcell
              obtain ⟨hu, hrd⟩ := inR_rd (c := fun j => cs[offR (φ r) g p + j]?) hy (L.rg k gm hm) hcell'
              obtain ⟨s1, s2, s3, s4, s5, s5', s6, s7, s8⟩ := setR_pty hg'
              refine R.join' hl hm hkr hgh hon s3 s2 s4 (s5.trans s5'.symm) s6 s7 (fun q v hq => by rw [cellR_off s5 ((s7 q).trans hq), cellR_off hc hq, s8]) (base_ne ht hc) (f6 w cs (φ k) y _ g' _ hg' f2 rfl (fun _ _ => rfl) hrd fun _ _ => rfl)
            · cases h
          · cases h
        · cases h
      · cases h
    · cases h
  · cases h
/-! maps -/
def gcloseM (rs : Regs) (r m : Nat) : Option Regs :=
  match look rs r with
  | some (.mp (.int kk) v o H) => match look rs m with
    | some gm => if gm.holes.isEmpty = true then (match onM m H with
      | [([.key x], _)] => (inR v gm).map fun y => drop (upd rs r (some (.mp (.int kk) v (setO o x y) (notM m H)))) m
      | _ => none) else none
    | none => none
  | _ => none
theorem notM_mem {m : Nat} {H : Holes} (q : List Step) (k : Nat) : (q, k) ∈ notM m H ↔ (q, k) ∈ H ∧ k ≠ m := by
  simp only [notM, List.mem_filter]
  have : (!(Nat.beq k m)) = true ↔ k ≠ m := by
    cases h : Nat.beq k m with
    | true => simp [Nat.eq_of_beq_eq_true h]
    | false => simp [Nat.ne_of_beq_eq_false h]
  rw [this]
theorem onM_only {m : Nat} {H : Holes} {p : List Step} {k : Nat} (h : onM m H = [(p, k)]) : k = m ∧ (p, m) ∈ H ∧ ∀ q, (q, m) ∈ H → q = p := by
  have h0 : (p, k) ∈ onM m H := by rw [h]; simp
  obtain ⟨h1, h2⟩ := List.mem_filter.1 h0
  have hk : k = m := Nat.eq_of_beq_eq_true h2
  refine ⟨hk, hk ▸ h1, fun q hq => ?_⟩
  have : (q, m) ∈ onM m H := List.mem_filter.2 ⟨hq, Nat.beq_refl m⟩
  rw [h] at this
  simpa [hk] using this
theorem gcloseM_sound' {cx : Cx} {φ : Phi} {st : St} {a : Act} {w : World} (R : RelF cx φ st a w) {r m : Nat} {rs' : Regs}
    (h : gcloseM st.regs r m = some rs') : ∃ φ', (∀ s, s ≠ r → φ' s = φ s) ∧ RelF cx φ' { st with regs := rs' } a w := by
  have L := R.lay
  unfold gcloseM at h
  split at h
  · rename_i kk v o H hl
    split at h
    · rename_i gm hm
      split at h
      · rename_i hgh
        have hgh : gm.holes = [] := by simpa using hgh
        split at h
        · rename_i x k hon
          obtain ⟨rfl, hpm, honly⟩ := onM_only hon
          rw [Option.map_eq_some_iff] at h
          obtain ⟨y, hy, e⟩ := h
          subst e
          have hkr : k ≠ r := (L.ht r _ hl _ _ hpm).1
          cases hge : getO o x with
          | none =>
            have hset : setO o x y = o := by
              cases o with
              | none => rfl
              | some es => exact congrArg some ((ent_absent (getE_none hge)).2.1 y)
            have hnp : ¬ pokR (.mp (.int kk) v o H) [.key x] := by
              cases o with
              | none => exact fun h => h
              | some es =>
                rintro ⟨z, hz⟩
                exact getE_none hge _ hz rfl
            rw [hset]
            refine ⟨φ, fun _ _ => rfl, ?_⟩
            have hlook : ∀ s, look (upd st.regs r (some (.mp (.int kk) v o (notM k H)))) s = if r = s then some (.mp (.int kk) v o (notM k H)) else look st.regs s := fun s => look_upd ..
            obtain ⟨w1, w2, w3, w4, w5, w6, w7, w8, w9⟩ := withH_spec (.mp (.int kk) v o H) (notM k H)
            have hS : ∀ s g', s ∈ [r] → look (upd st.regs r (some (.mp (.int kk) v o (notM k H)))) s = some g' → s = r ∧ g' = .mp (.int kk) v o (notM k H) := by
              intro s g' hs hg
              have e : s = r := by simpa using hs
              rw [hlook, if_pos e.symm] at hg; cases hg
              exact ⟨e, rfl⟩
            have R1 : RelF cx φ { st with regs := upd st.regs r (some (.mp (.int kk) v o (notM k H))) } a w := by
              refine R.regroup [r] _ rfl ?_ ?_ ?_ ?_ ?_ ?_ ?_ ?_ ?_
              · intro s hs
                have hs : s ≠ r := by simpa using hs
                rw [hlook, if_neg (Ne.symm hs)]; exact ⟨rfl, rfl⟩
              · intro s hs g' hg' b hb
                obtain ⟨rfl, rfl⟩ := hS s g' hs hg'
                exact ⟨s, by simp, _, hl, hb⟩
              · intro s hs g' hg'
                obtain ⟨rfl, rfl⟩ := hS s g' hs hg'
                exact L.inj s _ hl
              · intro s hs g' hg'
                obtain ⟨rfl, rfl⟩ := hS s g' hs hg'
                exact (w8 _ _ _ _).2 (L.rg s _ hl)
              · intro s hs g' hg'
                obtain ⟨rfl, rfl⟩ := hS s g' hs hg'
                exact .inr ⟨.rfl' _, _, hl, w4⟩
              · intro s hs s' hs' g1 g2 b h1 h2 _ _
                rw [(hS s g1 hs h1).1, (hS s' g2 hs' h2).1]
              · intro s hs g' hg' q n hqn hq gk hgk
                obtain ⟨rfl, rfl⟩ := hS s g' hs hg'
                obtain ⟨k1, k2⟩ := (notM_mem q n).1 hqn
                have hns : n ≠ s := (L.ht s _ hl q n k1).1
                rw [hlook, if_neg (Ne.symm hns)] at hgk
                exact (w9 _ _ _).trans (L.hl s _ hl q n k1 ((w5 q).1 hq) gk hgk)
              · intro s hs g' hg' q hq
                obtain ⟨rfl, rfl⟩ := hS s g' hs hg'
                obtain ⟨p0, n, k1, k2, k3⟩ := L.told s _ hl q hq
                refine ⟨p0, n, (notM_mem _ _).2 ⟨k1, fun e => ?_⟩, k2, (w5 p0).2 k3⟩
                subst e
                rw [honly p0 k1] at k3
                exact hnp k3
              · intro s hs g' hg' q n hqn
                obtain ⟨rfl, rfl⟩ := hS s g' hs hg'
                obtain ⟨k1, k2⟩ := (notM_mem q n).1 hqn
                obtain ⟨a1, a2, a3⟩ := L.ht s _ hl q n k1
                exact ⟨a1, fun hc => absurd hc (by simp [Reg.isCells]), (w6 q).symm ▸ a3⟩
            exact R1.del k
          | some z =>
            cases o with
            | none => cases hge
            | some es =>
              have hge : getE es x = some z := hge
              have hat := L.rg r _ hl
              obtain ⟨h0, b, ms, clock, e1, e2, M⟩ := mapC_iff.1 hat
              rcases M.find x with ⟨_, h2, _⟩ | ⟨j, hj, hj', _, hx, _⟩
              · exact (h2 _ (getE_mem hge) rfl).elim
              · obtain ⟨_, n2, _, n4⟩ := ent_at hj (differ_pw.1 M.df) hx
                obtain ⟨k1, k2, k3, k4⟩ := M.en j hj hj'
                have hcell := L.hl r _ hl [.key x] k hpm ⟨z, getE_mem hge⟩ gm hm
                have hcell : entAt w (φ r).blk kk x = some (hdr (φ k) gm) := hcell
                rw [show (φ r).blk = some b from e1, entAt_find M x e2 hj hj' hx] at hcell
                have hval : ms[j].val = hdr (φ k) gm := by simpa using hcell
                obtain ⟨hu, hrd⟩ := inR_rd (c := fun i => ms[j].val.cells[i]?) hy (L.rg k gm hm) (by rw [hval]; rw [(hdr_one _ _).2.2]; rfl)
                refine R.join' (g := .mp (.int kk) v (some es) H) (g' := .mp (.int kk) v (some (setE es x y)) (notM k H)) (p := [.key x]) hl hm hkr hgh hon rfl ⟨rfl, rfl⟩ rfl rfl ?_ (fun q => ?_) (fun q _ _ => ?_) (by simp [Reg.base]) ?_
                · intro q
                  cases q with
                  | nil => exact Iff.rfl
                  | cons c q => cases c <;> cases q <;> first | exact Iff.rfl | exact mem_setE_key
                · cases q with
                  | nil => rfl
                  | cons c q => cases c <;> cases q <;> rfl
                · cases q with
                  | nil => rfl
                  | cons c q => cases c <;> cases q <;> rfl
                · rw [n2 y]
                  have M2 := M.set hj hx (φ k) y id (fun e => ⟨rfl, rfl⟩) hrd k3 k4
                  have e0 : ms.modify j id = ms := by
                    apply Array.ext
                    · simp
                    · intro i h1 h2; rw [Array.getElem_modify]; simp
                  rw [e0] at M2
                  exact mapC_iff.2 ⟨by simpa [Reg.base, Sub.put_root] using h0, b, ms, clock, by simpa [Reg.base, Sub.put_root] using e1, e2, M2⟩
        · cases h
      · cases h
    · cases h
  · cases h
def gclose (rs : Regs) (r m : Nat) : Option Regs :=
  match look rs r with
  | some g => if g.isCells = true then gcloseC rs r m else gcloseM rs r m
  | none => none
theorem gclose_sound' {cx : Cx} {φ : Phi} {st : St} {a : Act} {w : World} (R : RelF cx φ st a w) {r m : Nat} {rs' : Regs}
    (h : gclose st.regs r m = some rs') : ∃ φ', (∀ s, s ≠ r → φ' s = φ s) ∧ RelF cx φ' { st with regs := rs' } a w := by
  unfold gclose at h
  split at h
  · split at h
    · exact gcloseC_sound' R h
    · exact gcloseM_sound' R h
  · cases h
theorem gclose_sound {cx : Cx} {φ : Phi} {st : St} {a : Act} {w : World} (R : RelF cx φ st a w) {r m : Nat} {rs' : Regs}
    (h : gclose st.regs r m = some rs') : ∃ φ', RelF cx φ' { st with regs := rs' } a w := by
  obtain ⟨φ', _, R'⟩ := gclose_sound' R h
  exact ⟨φ', R'⟩

end Go.Lift
