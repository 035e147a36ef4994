/- A core's books: what is charged is what was reported. -/
import Derived.Test.YtppemehkbnbjlaaM10
set_option linter.unusedVariables false
set_option linter.unusedSimpArgs false
namespace Go.Spec
open Go Go.Lift
def KI (n : Int) (c : CS) (q ch : List Int) (wh : Option (List (Int × Int))) : Prop :=
  ∃ r, CR c r ∧ q.length = 17 ∧ ch.length = 17 ∧ wh.isSome = true ∧ (r.2.2.1.length : Int) ≤ n ∧
    (∀ k, 1 ≤ k → k ≤ 16 → ch.getD k.toNat 0 = usedS k r.2.2.1 ∧ (knB r k = true → q.getD k.toNat 0 = (ps r k).2.2.2.2.1)) ∧
    ∀ i (h : i < r.2.2.1.length), getO wh ((i : Int) + 1) = some r.2.2.1[i].1 ∧ 0 ≤ r.2.2.1[i].2.2.2.1 ∧ r.2.2.1[i].2.2.2.1 ≤ n
def KI0 (n : Int) (c : CS) (q ch : List Int) : Prop :=
  ∃ r, CR c r ∧ q.length = 17 ∧ ch = List.replicate 17 0 ∧ r.2.2.1 = [] ∧ (∀ k, n < k → knB r k = false) ∧ ∀ k, 1 ≤ k → k ≤ 16 → knB r k = true → q.getD k.toNat 0 = (ps r k).2.2.2.2.1
end Go.Spec
