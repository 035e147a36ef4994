/- The value side of a verified abstract interpreter: types, what they denote, how a value of a type reads in memory, paths into it. -/
import Derived.Orders
import Derived.Below
import Derived.KernelRfl
set_option linter.unusedVariables false
set_option linter.unusedSimpArgs false
namespace Go.Lift
open Go

inductive Ty where
  | int (k : IntKind)
  | bool
  | str
  | unit
  | ro (t : Ty)
  | pair (a b : Ty)
  | arr (n : Nat) (t : Ty)
  deriving DecidableEq

@[reducible] def Ty.den : Ty → Type
  | .int _ => Int
  | .bool => Bool
  | .str => ByteArray
  | .unit => Unit
  | .ro t => List t.den
  | .pair a b => a.den × b.den
  | .arr _ t => List t.den

def Ty.dflt : (t : Ty) → t.den
  | .int _ => (0 : Int)
  | .bool => false
  | .str => ByteArray.empty
  | .unit => ()
  | .ro _ => []
  | .pair a b => (a.dflt, b.dflt)
  | .arr n t => List.replicate n t.dflt

def Ty.sz : Ty → Nat
  | .int _ => 1
  | .bool => 1
  | .str => 1
  | .unit => 0
  | .ro _ => 1
  | .pair a b => a.sz + b.sz
  | .arr n t => n * t.sz

def Ty.agg : Ty → Bool
  | .pair _ _ => true
  | .arr _ _ => true
  | .unit => true
  | _ => false

def castTy (t u : Ty) (x : t.den) : Option u.den := if h : t = u then some (h ▸ x) else none
theorem castTy_self (t : Ty) (x : t.den) : castTy t t x = some x := by simp [castTy]
theorem castTy_some {t u : Ty} {x : t.den} {y : u.den} (h : castTy t u x = some y) : ∃ e : t = u, e ▸ x = y := by
  unfold castTy at h
  split at h
  · rename_i e; exact ⟨e, by simpa using h⟩
  · cases h

/-- How a value of a type reads at cells. -/
def Ty.rd (ok : Nat → Prop) (w : World) : (t : Ty) → t.den → (Nat → Option Value) → Prop
  | .int k, x, c => c 0 = some (.int k x)
  | .bool, x, c => c 0 = some (.bool x)
  | .str, x, c => c 0 = some (.string x)
  | .unit, _, _ => True
  | .ro t, xs, c => ∃ a cap, c 0 = some (.slice a (List.length xs) cap) ∧ List.length xs ≤ cap ∧
      (xs = [] ∨ ∃ b off cs ty fz, a = some ⟨b, off, none⟩ ∧ ok b ∧ w.heap[b]? = some (.cells cs ty fz) ∧
        ∀ i (h : i < List.length xs), t.rd ok w (xs[i]'h) (fun j => cs[off + i * t.sz + j]?))
  | .pair a b, x, c => a.rd ok w x.1 c ∧ b.rd ok w x.2 (fun j => c (a.sz + j))
  | .arr n t, xs, c => List.length xs = n ∧ ∀ i (h : i < List.length xs), t.rd ok w (xs[i]'h) (fun j => c (i * t.sz + j))

theorem Ty.rd_mono {ok ok' : Nat → Prop} {w w' : World} (h : ∀ b o, ok b → w.heap[b]? = some o → ok' b ∧ w'.heap[b]? = some o) :
    ∀ (t : Ty) (x : t.den) (c : Nat → Option Value), t.rd ok w x c → t.rd ok' w' x c := by
  intro t
  induction t with
  | int k => intro x c hr; exact hr
  | bool => intro x c hr; exact hr
  | str => intro x c hr; exact hr
  | unit => intro x c hr; exact hr
  | ro t ih =>
    intro xs c hr
    obtain ⟨a, cap, h0, h1, h2⟩ := hr
    refine ⟨a, cap, h0, h1, ?_⟩
    rcases h2 with h2 | ⟨b, off, cs, ty, fz, ha, hok, hh, he⟩
    · exact .inl h2
    · exact .inr ⟨b, off, cs, ty, fz, ha, (h _ _ hok hh).1, (h _ _ hok hh).2, fun i hi => ih _ _ (he i hi)⟩
  | pair a b iha ihb => intro x c hr; exact ⟨iha _ _ hr.1, ihb _ _ hr.2⟩
  | arr n t ih => intro xs c hr; exact ⟨hr.1, fun i hi => ih _ _ (hr.2 i hi)⟩

theorem mul_lt_of {i n s j : Nat} (hi : i < n) (hj : j < s) : i * s + j < n * s := by
  have : (i + 1) * s ≤ n * s := Nat.mul_le_mul_right _ hi
  rw [Nat.add_mul] at this
  omega

theorem Ty.rd_congr {ok : Nat → Prop} {w : World} :
    ∀ (t : Ty) (x : t.den) (c c' : Nat → Option Value), (∀ j, j < t.sz → c j = c' j) → t.rd ok w x c → t.rd ok w x c' := by
  intro t
  induction t with
  | int k => intro x c c' h hr; exact (h 0 (by simp [Ty.sz])).symm.trans hr
  | bool => intro x c c' h hr; exact (h 0 (by simp [Ty.sz])).symm.trans hr
  | str => intro x c c' h hr; exact (h 0 (by simp [Ty.sz])).symm.trans hr
  | unit => intro x c c' h hr; exact hr
  | ro t ih =>
    intro xs c c' h hr
    obtain ⟨a, cap, h0, h1, h2⟩ := hr
    exact ⟨a, cap, (h 0 (by simp [Ty.sz])).symm.trans h0, h1, h2⟩
  | pair a b iha ihb =>
    intro x c c' h hr
    exact ⟨iha _ _ _ (fun j hj => h j (by simp [Ty.sz]; omega)) hr.1, ihb _ _ _ (fun j hj => h _ (by simp [Ty.sz]; omega)) hr.2⟩
  | arr n t ih =>
    intro xs c c' h hr
    refine ⟨hr.1, fun i hi => ih _ _ _ (fun j hj => h _ ?_) (hr.2 i hi)⟩
    have hn := hr.1
    simp only [Ty.sz]
    exact mul_lt_of (by omega) hj

/-! ### Paths -/

inductive Step where
  | fst
  | snd
  | idx (i : Int)

def pty : Ty → List Step → Option Ty
  | t, [] => some t
  | .pair a _, .fst :: p => pty a p
  | .pair _ b, .snd :: p => pty b p
  | .arr _ t, .idx _ :: p => pty t p
  | _, _ => none

def poff : Ty → List Step → Nat
  | _, [] => 0
  | .pair a _, .fst :: p => poff a p
  | .pair a b, .snd :: p => a.sz + poff b p
  | .arr _ t, .idx i :: p => i.toNat * t.sz + poff t p
  | _, _ => 0

def pok : Ty → List Step → Prop
  | _, [] => True
  | .pair a _, .fst :: p => pok a p
  | .pair _ b, .snd :: p => pok b p
  | .arr n t, .idx i :: p => 0 ≤ i ∧ i < (n : Int) ∧ pok t p
  | _, _ => False

def pget : (t : Ty) → t.den → List Step → (u : Ty) → Option u.den
  | t, x, [], u => castTy t u x
  | .pair a _, x, .fst :: p, u => pget a x.1 p u
  | .pair _ b, x, .snd :: p, u => pget b x.2 p u
  | .arr _ t, x, .idx i :: p, u => pget t (List.getD x i.toNat t.dflt) p u
  | _, _, _, _ => none

def pset : (t : Ty) → t.den → List Step → (u : Ty) → u.den → Option t.den
  | t, _, [], u, y => castTy u t y
  | .pair a b, x, .fst :: p, u, y => (pset a x.1 p u y).map (fun z => ((z, x.2) : (Ty.pair a b).den))
  | .pair a b, x, .snd :: p, u, y => (pset b x.2 p u y).map (fun z => ((x.1, z) : (Ty.pair a b).den))
  | .arr n t, x, .idx i :: p, u, y => (pset t (List.getD x i.toNat t.dflt) p u y).map (fun z => (List.set x i.toNat z : (Ty.arr n t).den))
  | _, _, _, _, _ => none

theorem pget_pty : ∀ (p : List Step) (t : Ty) (x : t.den) (u : Ty) (y : u.den), pget t x p u = some y → pty t p = some u := by
  intro p
  induction p with
  | nil => intro t x u y h; obtain ⟨e, _⟩ := castTy_some (by simpa [pget] using h); subst e; simp [pty]
  | cons s p ih =>
    intro t x u y h
    cases t <;> cases s <;> simp only [pget, pty] at h ⊢ <;> first | exact ih _ _ _ _ h | cases h

theorem pset_pty : ∀ (p : List Step) (t : Ty) (x : t.den) (u : Ty) (y : u.den) (x' : t.den), pset t x p u y = some x' → pty t p = some u := by
  intro p
  induction p with
  | nil => intro t x u y x' h; obtain ⟨e, _⟩ := castTy_some (by simpa [pset] using h); subst e; simp [pty]
  | cons s p ih =>
    intro t x u y x' h
    cases t <;> cases s <;> simp only [pset, pty] at h ⊢ <;> first | (cases h; done) | (rw [Option.map_eq_some_iff] at h; obtain ⟨z, hz, _⟩ := h; exact ih _ _ _ _ _ hz)

theorem poff_le : ∀ (p : List Step) (t u : Ty), pok t p → pty t p = some u → poff t p + u.sz ≤ t.sz := by
  intro p
  induction p with
  | nil => intro t u _ h; simp only [pty, Option.some.injEq] at h; subst h; simp [poff]
  | cons s p ih =>
    intro t u hok h
    cases t <;> cases s <;> simp only [pty, pok, poff, Ty.sz] at hok h ⊢ <;> try (cases h; done)
    · have := ih _ _ hok h; omega
    · have := ih _ _ hok h; omega
    · rename_i n t i
      obtain ⟨h0, h1, h2⟩ := hok
      have := ih _ _ h2 h
      have h3 : (i.toNat + 1) * t.sz ≤ n * t.sz := Nat.mul_le_mul_right _ (by omega)
      rw [Nat.add_mul] at h3
      omega

theorem rd_pget {ok : Nat → Prop} {w : World} : ∀ (p : List Step) (t : Ty) (x : t.den) (c : Nat → Option Value) (u : Ty) (y : u.den),
    t.rd ok w x c → pok t p → pget t x p u = some y → u.rd ok w y (fun j => c (poff t p + j)) := by
  intro p
  induction p with
  | nil =>
    intro t x c u y hr _ h
    obtain ⟨e, he⟩ := castTy_some (by simpa [pget] using h)
    subst e; subst he
    simpa [poff] using hr
  | cons s p ih =>
    intro t x c u y hr hok h
    cases t <;> cases s <;> simp only [pget, pok, poff] at hok h ⊢ <;> try (cases h; done)
    · exact ih _ _ _ _ _ hr.1 hok h
    · have := ih _ _ _ _ _ hr.2 hok h
      simpa only [Nat.add_assoc] using this
    · rename_i n t i
      obtain ⟨h0, h1, h2⟩ := hok
      have hn := hr.1
      have hi : i.toNat < List.length x := by omega
      have e : List.getD x i.toNat t.dflt = x[i.toNat] := by simp [List.getD, List.getElem?_eq_getElem hi]
      rw [e] at h
      have := ih _ _ _ _ _ (hr.2 i.toNat hi) h2 h
      simpa only [Nat.add_assoc] using this

theorem rd_pset {ok : Nat → Prop} {w : World} : ∀ (p : List Step) (t : Ty) (x : t.den) (c c2 : Nat → Option Value) (u : Ty) (y : u.den) (x' : t.den) (c' : Nat → Option Value),
    t.rd ok w x c → pok t p → pset t x p u y = some x' → u.rd ok w y c' →
    (∀ j, j < poff t p ∨ poff t p + u.sz ≤ j → c2 j = c j) → (∀ j, j < u.sz → c2 (poff t p + j) = c' j) → t.rd ok w x' c2 := by
  intro p
  induction p with
  | nil =>
    intro t x c c2 u y x' c' hr _ h hy _ h2
    obtain ⟨e, he⟩ := castTy_some (by simpa [pset] using h)
    subst e; subst he
    exact Ty.rd_congr _ _ _ _ (fun j hj => by have := h2 j hj; simp [poff] at this; exact this.symm) hy
  | cons s p ih =>
    intro t x c c2 u y x' c' hr hok h hy h1 h2
    have hpt := pset_pty _ _ _ _ _ _ h
    cases t <;> cases s <;> simp only [pset, pok, poff, pty] at hok h h1 h2 hpt <;> try (cases h; done)
    · rename_i a b
      rw [Option.map_eq_some_iff] at h
      obtain ⟨z, hz, rfl⟩ := h
      have hb := poff_le p a u hok hpt
      refine ⟨ih _ _ _ _ _ _ _ _ hr.1 hok hz hy h1 h2, Ty.rd_congr _ _ _ _ (fun j _ => (h1 _ (by omega)).symm) hr.2⟩
    · rename_i a b
      rw [Option.map_eq_some_iff] at h
      obtain ⟨z, hz, rfl⟩ := h
      refine ⟨Ty.rd_congr _ _ _ _ (fun j hj => (h1 _ (by omega)).symm) hr.1, ?_⟩
      refine ih _ _ _ _ _ _ _ _ hr.2 hok hz hy (fun j hj => h1 _ (by omega)) (fun j hj => ?_)
      have := h2 j hj
      simpa only [Nat.add_assoc] using this
    · rename_i n t i
      obtain ⟨h0, h3, h4⟩ := hok
      rw [Option.map_eq_some_iff] at h
      obtain ⟨z, hz, rfl⟩ := h
      have hn := hr.1
      have hi : i.toNat < List.length x := by omega
      have e : List.getD x i.toNat t.dflt = x[i.toNat] := by simp [List.getD, List.getElem?_eq_getElem hi]
      have hb := poff_le p t u h4 hpt
      rw [e] at hz
      refine ⟨by simpa using hn, fun k hk => ?_⟩
      have hk' : k < List.length x := by simpa using hk
      by_cases hki : k = i.toNat
      · subst hki
        have : (List.set x i.toNat z)[i.toNat]'hk = z := by simp
        rw [this]
        refine ih _ _ _ _ _ _ _ _ (hr.2 i.toNat hi) h4 hz hy (fun j hj => h1 _ (by omega)) (fun j hj => ?_)
        have := h2 j hj
        simpa only [Nat.add_assoc] using this
      · have : (List.set x i.toNat z)[k]'hk = x[k] := by
          rw [List.getElem_set_ne (by omega)]
        rw [this]
        refine Ty.rd_congr _ _ _ _ (fun j hj => (h1 _ ?_).symm) (hr.2 k hk')
        rcases Nat.lt_or_gt_of_ne hki with hlt | hgt
        · left
          have h5 : (k + 1) * t.sz ≤ i.toNat * t.sz := Nat.mul_le_mul_right _ hlt
          rw [Nat.add_mul] at h5
          omega
        · right
          have h5 : (i.toNat + 1) * t.sz ≤ k * t.sz := Nat.mul_le_mul_right _ hgt
          rw [Nat.add_mul] at h5
          omega

end Go.Lift
