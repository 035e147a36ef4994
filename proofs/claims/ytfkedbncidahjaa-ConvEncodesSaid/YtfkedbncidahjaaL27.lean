/- Small words for the functions' texts. -/
import Derived.Test.YtfkedbncidahjaaL23
import Derived.IntWalk
set_option linter.unusedVariables false
set_option linter.unusedSimpArgs false
namespace Go.Lift
open Go
noncomputable def bodyOf (f : Func) : Code := f.body.getD .skip
noncomputable def loopAt (c : Code) (b : Nat) : Code := match (loopList c 0).find? (fun p => p.1 == b) with
  | some p => p.2
  | none => .skip
theorem body_some {f : Func} (h : f.body.isSome = true) : f.body = some (bodyOf f) := by
  unfold bodyOf
  cases hb : f.body with
  | none => rw [hb] at h; cases h
  | some c => rfl
def sumsOf : List (Nat × Summ) → Nat → Option Summ
  | [], _ => none
  | (k, S) :: l, f => if k = f then some S else sumsOf l f
theorem sumsOf_ok {P : Program} : ∀ {l : List (Nat × Summ)}, (∀ p ∈ l, SumOK P p.1 p.2) → ∀ f S, sumsOf l f = some S → SumOK P f S
  | [], _, _, _, h => nomatch h
  | (k, S0) :: l, hl, f, S, h => by
    unfold sumsOf at h
    split at h
    · rename_i e
      cases h
      subst e
      exact hl (k, S0) (List.mem_cons_self ..)
    · exact sumsOf_ok (fun p hp => hl p (List.mem_cons_of_mem _ hp)) f S h
def u (n : Nat) : List Slot := List.replicate n .u
def un (n : Nat) : List AV := List.replicate n (.s .undef)
theorem condP_iff {c : Bool} {p q : Prop} : condP c p q ↔ (c = true → p) ∧ (c = false → q) := ⟨fun h => ⟨h.t, h.f⟩, fun h => ⟨h.1, h.2⟩⟩
theorem condP_t {c : Bool} {p q : Prop} (h : c = true) : condP c p q ↔ p := ⟨fun k => k.t h, fun k => ⟨fun _ => k, fun e => by rw [h] at e; cases e⟩⟩
theorem condP_f {c : Bool} {p q : Prop} (h : c = false) : condP c p q ↔ q := ⟨fun k => k.f h, fun k => ⟨fun e => (by rw [h] at e; cases e), fun _ => k⟩⟩
theorem drop_cons {α : Type} (l : List α) (i : Nat) (d : α) (h : i < l.length) : l.drop i = l.getD i d :: l.drop (i + 1) := by
  rw [List.drop_eq_getElem_cons h, List.getD_eq_getElem?_getD, List.getElem?_eq_getElem h]; rfl
end Go.Lift
