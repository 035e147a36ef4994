/- Deeds at both cores. -/
import Derived.Test.YtppemehkbnbjlaaM4
set_option linter.unusedVariables false
set_option linter.unusedSimpArgs false
namespace Go.Spec
open Go Go.Lift
abbrev DD := Int × Int × Int × Int × UG × Unit
def dC (c : CS) (d : DD) : (Int × Int × Int) × CS :=
  if d.1 = 0 then (((joinC c d.2.1 d.2.2.1).1, 0, 0), (joinC c d.2.1 d.2.2.1).2) else
  if d.1 = 1 then (((attC c d.2.1 d.2.2.1).1, 0, 0), (attC c d.2.1 d.2.2.1).2) else
  if d.1 = 2 then (((leaC c d.2.1).1, 0, 0), (leaC c d.2.1).2) else
  if d.1 = 3 then (((slpC c d.2.1).1, 0, 0), (slpC c d.2.1).2) else
  if d.1 = 4 then (((wakC c d.2.1 d.2.2.1).1, 0, 0), (wakC c d.2.1 d.2.2.1).2) else
  if d.1 = 5 then (((hanC c d.2.1 d.2.2.1 d.2.2.2.1).1, 0, 0), (hanC c d.2.1 d.2.2.1 d.2.2.2.1).2) else
  if d.1 = 6 then lenC c d.2.1 else (((repC c d.2.2.2.2.1).1, 0, 0), (repC c d.2.2.2.2.1).2)
def dR (r : RC) (d : DD) : (Int × Int × Int) × RC :=
  if d.1 = 0 then (((joinR r d.2.1 d.2.2.1).1, 0, 0), (joinR r d.2.1 d.2.2.1).2) else
  if d.1 = 1 then (((attR r d.2.1 d.2.2.1).1, 0, 0), (attR r d.2.1 d.2.2.1).2) else
  if d.1 = 2 then (((leaR r d.2.1).1, 0, 0), (leaR r d.2.1).2) else
  if d.1 = 3 then (((slpR r d.2.1).1, 0, 0), (slpR r d.2.1).2) else
  if d.1 = 4 then (((wakR r d.2.1 d.2.2.1).1, 0, 0), (wakR r d.2.1 d.2.2.1).2) else
  if d.1 = 5 then (((hanR r d.2.1 d.2.2.1 d.2.2.2.1).1, 0, 0), (hanR r d.2.1 d.2.2.1 d.2.2.2.1).2) else
  if d.1 = 6 then lenR r d.2.1 else (((repR r d.2.2.2.2.1).1, 0, 0), (repR r d.2.2.2.2.1).2)
def dPre (c : CS) (r : RC) : Prop := c.2.1.isSome = true ∧ grantsOK c.2.1 c.2.2.1 ∧ (c.2.2.1.length + 1) * 8 ≤ 140737488355328 ∧ r.2.1.length = 17 ∧ (r.2.2.1.length + 1) * 40 ≤ 140737488355328
end Go.Spec
