/- What the functions answer: a core. -/
import Derived.Test.YtppemehkbnbjlaaM4
import Derived.Test.YtppemehkbnbjlaaS1
import Derived.Test.YtppemehkbnbjlaaX3
set_option linter.unusedVariables false
set_option linter.unusedSimpArgs false
namespace Go.Spec
open Go Go.Lift
abbrev tyPR : Ty := .pair (.int .i64) (.pair (.int .i64) (.pair (.pair (.int .i64) (.pair (.int .i64) (.pair (.int .i64) .unit))) .unit))
abbrev tyRE : Ty := .pair (.int .i64) (.pair (.int .i64) (.pair (.int .i64) .unit))
abbrev tyGR : Ty := .pair (.int .i64) (.pair (.int .i64) (.pair (.int .i64) (.pair .bool .unit)))
abbrev tyCS : Ty := .pair (.int .i64) (.pair (.map (.int .i64) (.ptr tyPR)) (.pair (.own (.ptr tyGR)) .unit))
abbrev tyPS : Ty := .pair .bool (.pair .bool (.pair .bool (.pair (.int .i64) (.pair (.int .i64) .unit))))
abbrev tyLN : Ty := .pair (.int .i64) (.pair (.int .i64) (.pair (.int .i64) (.pair (.int .i64) (.pair .bool .unit))))
abbrev tyRC : Ty := .pair (.int .i64) (.pair (.arr 17 tyPS) (.pair (.own tyLN) .unit))
abbrev tyUG : Ty := .pair (.int .i64) (.pair (.int .i64) (.pair (.int .i64) (.pair .bool .unit)))
abbrev tyDD : Ty := .pair (.int .i64) (.pair (.int .i64) (.pair (.int .i64) (.pair (.int .i64) (.pair tyUG .unit))))
abbrev oneC (f : CS → Int → Int × CS) : Summ := { par := [.box tyCS, .v (.int .i64)], res := [.v (.int .i64)], esc := false, pre := fun x => (Prod.fst (Prod.snd x.1)).isSome = true ∧ grantsOK (Prod.fst (Prod.snd x.1)) (Prod.fst (Prod.snd (Prod.snd x.1))), fn := fun x => (((f x.1 x.2.1).1, ()), ((f x.1 x.2.1).2, (), ())) }
abbrev twoC (f : CS → Int → Int → Int × CS) : Summ := { par := [.box tyCS, .v (.int .i64), .v (.int .i64)], res := [.v (.int .i64)], esc := false, pre := fun x => (Prod.fst (Prod.snd x.1)).isSome = true, fn := fun x => (((f x.1 x.2.1 x.2.2.1).1, ()), ((f x.1 x.2.1 x.2.2.1).2, (), (), ())) }
abbrev oneR (f : RC → Int → Int × RC) : Summ := { par := [.box tyRC, .v (.int .i64)], res := [.v (.int .i64)], esc := false, pre := fun x => (Prod.fst (Prod.snd x.1)).length = 17, fn := fun x => (((f x.1 x.2.1).1, ()), ((f x.1 x.2.1).2, (), ())) }
abbrev twoR (f : RC → Int → Int → Int × RC) : Summ := { par := [.box tyRC, .v (.int .i64), .v (.int .i64)], res := [.v (.int .i64)], esc := false, pre := fun x => (Prod.fst (Prod.snd x.1)).length = 17, fn := fun x => (((f x.1 x.2.1 x.2.2.1).1, ()), ((f x.1 x.2.1 x.2.2.1).2, (), (), ())) }
def S_core_isCell_1 : Summ := { par := [.v (.int .i64)], res := [.v .bool], esc := false, pre := fun _ => True, fn := fun x => ((!isC x.1, ()), ((), ())) }
def S_slices_IndexFunc_int_int : Summ := { par := [.v (.ro (.int .i64)), .fn0 132], res := [.v (.int .i64)], esc := false, pre := fun x => (x.1.length : Int) ≤ big, fn := fun x => ((firstBad x.1 0, ()), ((), (), ())) }
def p_slices_IndexFunc_int_int_0 (t0 : List Int) (t7 t8 : Int) : Prop := t7 = t0.length ∧ 0 ≤ t8 ∧ t8 ≤ t7 ∧ (t0.length : Int) ≤ big
def m_slices_IndexFunc_int_int_0 (t0 : List Int) (_t7 t8 : Int) : Nat := t0.length - t8.toNat
def o_slices_IndexFunc_int_int_0 (t0 : List Int) (_t7 t8 : Int) (K : AExit → St → Prop) : Prop := condP (decide (0 ≤ firstBad (t0.drop t8.toNat) t8)) (X_slices_IndexFunc_int_int_0_0 (firstBad (t0.drop t8.toNat) t8) K) (X_slices_IndexFunc_int_int_0_1 K)
def S_core_isCell : Summ := { par := [.v (.ro (.int .i64))], res := [.v .bool], esc := false, pre := fun x => (x.1.length : Int) ≤ big, fn := fun x => ((x.1.all isC, ()), ((), ())) }
def S_R_Cell : Summ := { par := [.v (.int .i64)], res := [.v .bool], esc := false, pre := fun _ => True, fn := fun x => ((isC x.1, ()), ((), ())) }
def S_R_Core_Knows : Summ := { par := [.box tyRC, .v (.int .i64)], res := [.v .bool], esc := false, pre := fun _ => True, fn := fun x => ((knB x.1 x.2.1, ()), (x.1, (), ())) }
def newC (u : Int) : Option CS × Int := if 1 ≤ u ∧ u ≤ 1000000 then (some (u, some [], [], ()), 0) else (none, 1)
def S_core_New : Summ := { par := [.v (.int .i64)], res := [.obox tyCS, .v (.int .i64)], esc := false, pre := fun _ => True, fn := fun x => (((newC x.1).1, (newC x.1).2, ()), ((), ())) }
def S_core_Core_Record : Summ := { par := [.box tyCS, .v (.int .i64)], res := [.v tyRE, .v (.int .i64)], esc := false, pre := fun _ => True, fn := fun x => (((recC x.1 x.2.1).1, (recC x.1 x.2.1).2, ()), (x.1, (), ())) }
def S_core_Core_Page : Summ := { par := [.box tyCS, .v (.int .i64)], res := [.row (.int .i64), .v (.int .i64)], esc := false, pre := fun _ => True, fn := fun x => (((pagC x.1 x.2.1).1, (pagC x.1 x.2.1).2, ()), (x.1, (), ())) }
def p_core_Core_Page_1 (_t8 : Int) (_r0 : CS) (r1 : List Int) : Prop := r1.length ≤ 8
def m_core_Core_Page_1 (_t8 : Int) (_r0 : CS) (r1 : List Int) : Nat := 8 - r1.length
def o_core_Core_Page_1 (t8 : Int) (r0 : CS) (r1 : List Int) (K : AExit → St → Prop) : Prop := X_core_Core_Page_1_0 r0 (r1 ++ pgL (8 - r1.length) t8) K
def S_core_Core_Join : Summ := twoC joinC
def S_core_Core_Attach : Summ := twoC attC
def S_core_Core_Wake : Summ := twoC wakC
def S_core_Core_Sleep : Summ := { oneC slpC with pre := fun _ => True }
def S_core_Core_Hand : Summ := { par := [.box tyCS, .v (.int .i64), .v (.int .i64), .v (.int .i64)], res := [.v (.int .i64)], esc := false, pre := fun _ => True, fn := fun x => (((hanC x.1 x.2.1 x.2.2.1 x.2.2.2.1).1, ()), ((hanC x.1 x.2.1 x.2.2.1 x.2.2.2.1).2, (), (), (), ())) }
def S_core_Core_Leave : Summ := { oneC leaC with pre := fun x => (Prod.fst (Prod.snd x.1)).isSome = true ∧ grantsOK (Prod.fst (Prod.snd x.1)) (Prod.fst (Prod.snd (Prod.snd x.1))) ∧ ((Prod.fst (Prod.snd (Prod.snd x.1))).length : Int) ≤ big }
def p_core_Core_Leave_0 (_t1 t18 t19 : Int) (r0 : CS) (r1 : List (Option GR)) : Prop := t18 = r1.length ∧ 0 ≤ t19 ∧ t19 ≤ t18 ∧ (r1.length : Int) ≤ 9223372036854775806 ∧ grantsOK r0.2.1 (r1.drop t19.toNat)
def m_core_Core_Leave_0 (_t1 t18 t19 : Int) (_r0 : CS) (_r1 : List (Option GR)) : Nat := (t18 - t19).toNat
def o_core_Core_Leave_0 (t1 _t18 t19 : Int) (r0 : CS) (r1 : List (Option GR)) (K : AExit → St → Prop) : Prop :=
  X_core_Core_Leave_0_0 (r0.1, (shutL t1 (r1.drop t19.toNat) r0.2.1).1, r1.take t19.toNat ++ (shutL t1 (r1.drop t19.toNat) r0.2.1).2, r0.2.2.2) K
def S_core_Core_Lend : Summ := { par := [.box tyCS, .v (.int .i64)], res := [.v (.int .i64), .v (.int .i64), .v (.int .i64)], esc := false, pre := fun x => ((Prod.fst (Prod.snd (Prod.snd x.1))).length + 1) * 8 ≤ 140737488355328, fn := fun x => (((lenC x.1 x.2.1).1.1, (lenC x.1 x.2.1).1.2.1, (lenC x.1 x.2.1).1.2.2, ()), ((lenC x.1 x.2.1).2, (), ())) }
def S_core_Core_Report : Summ := { par := [.box tyCS, .v tyUG], res := [.v (.int .i64)], esc := false, pre := fun x => grantsOK (Prod.fst (Prod.snd x.1)) (Prod.fst (Prod.snd (Prod.snd x.1))) ∧ ((Prod.fst (Prod.snd (Prod.snd x.1))).length : Int) ≤ big, fn := fun x => (((repC x.1 x.2.1).1, ()), ((repC x.1 x.2.1).2, (), ())) }
def S_R_Core_Join : Summ := twoR joinR
def S_R_Core_Attach : Summ := twoR attR
def S_R_Core_Wake : Summ := twoR wakR
def S_R_Core_Sleep : Summ := oneR slpR
def S_R_Core_Hand : Summ := { par := [.box tyRC, .v (.int .i64), .v (.int .i64), .v (.int .i64)], res := [.v (.int .i64)], esc := false, pre := fun x => (Prod.fst (Prod.snd x.1)).length = 17, fn := fun x => (((hanR x.1 x.2.1 x.2.2.1 x.2.2.2.1).1, ()), ((hanR x.1 x.2.1 x.2.2.1 x.2.2.2.1).2, (), (), (), ())) }
def S_R_Core_Leave : Summ := { oneR leaR with pre := fun x => (Prod.fst (Prod.snd x.1)).length = 17 ∧ ((Prod.fst (Prod.snd (Prod.snd x.1))).length : Int) ≤ big }
def p_R_Core_Leave_0 (_t1 t5 : Int) (r0 : RC) : Prop := 0 ≤ t5 ∧ t5 ≤ r0.2.2.1.length ∧ (r0.2.2.1.length : Int) ≤ big
def m_R_Core_Leave_0 (_t1 t5 : Int) (r0 : RC) : Nat := (r0.2.2.1.length - t5).toNat
def o_R_Core_Leave_0 (t1 t5 : Int) (r0 : RC) (K : AExit → St → Prop) : Prop := X_R_Core_Leave_0_0 (r0.1, r0.2.1, r0.2.2.1.take t5.toNat ++ (r0.2.2.1.drop t5.toNat).map (shutR t1), r0.2.2.2) K
def S_R_Core_Record : Summ := { par := [.box tyRC, .v (.int .i64)], res := [.v tyRE, .v (.int .i64)], esc := false, pre := fun x => ((Prod.fst (Prod.snd (Prod.snd x.1))).length : Int) ≤ big, fn := fun x => (((recR x.1 x.2.1).1, (recR x.1 x.2.1).2, ()), (x.1, (), ())) }
def p_R_Core_Record_0 (t1 t7 : Int) (r0 : RC) (_r1 _r2 : RE) : Prop := 0 ≤ t7 ∧ t7 ≤ r0.2.2.1.length ∧ (r0.2.2.1.length : Int) ≤ big
def m_R_Core_Record_0 (_t1 t7 : Int) (r0 : RC) (_r1 _r2 : RE) : Nat := (r0.2.2.1.length - t7).toNat
def o_R_Core_Record_0 (t1 t7 : Int) (r0 : RC) (r1 r2 : RE) (K : AExit → St → Prop) : Prop := X_R_Core_Record_0_0 t1 r0 r1 (recL t1 (r0.2.2.1.drop t7.toNat) r2) K
def S_R_Core_Page : Summ := { par := [.box tyRC, .v (.int .i64)], res := [.row (.int .i64), .v (.int .i64)], esc := false, pre := fun _ => True, fn := fun x => (((pagR x.1 x.2.1).1, (pagR x.1 x.2.1).2, ()), (x.1, (), ())) }
def p_R_Core_Page_0 (t8 : Int) (_r0 : RC) (_r1 : PS) (r2 : List Int) : Prop := 1 ≤ t8 ∧ t8 ≤ 101 ∧ (r2.length : Int) < t8
def m_R_Core_Page_0 (t8 : Int) (_r0 : RC) (_r1 : PS) (_r2 : List Int) : Nat := (101 - t8).toNat
def o_R_Core_Page_0 (t8 : Int) (r0 : RC) (r1 : PS) (r2 : List Int) (K : AExit → St → Prop) : Prop := X_R_Core_Page_0_0 r0 (r2 ++ pgR r1.2.2.2.1 (101 - t8).toNat t8) K
def S_R_Core_Lend : Summ := { par := [.box tyRC, .v (.int .i64)], res := [.v (.int .i64), .v (.int .i64), .v (.int .i64)], esc := false, pre := fun x => ((Prod.fst (Prod.snd (Prod.snd x.1))).length + 1) * 40 ≤ 140737488355328, fn := fun x => (((lenR x.1 x.2.1).1.1, (lenR x.1 x.2.1).1.2.1, (lenR x.1 x.2.1).1.2.2, ()), ((lenR x.1 x.2.1).2, (), ())) }
def S_R_Core_Report : Summ := { par := [.box tyRC, .v tyUG], res := [.v (.int .i64)], esc := false, pre := fun x => ((Prod.fst (Prod.snd (Prod.snd x.1))).length : Int) ≤ big, fn := fun x => (((repR x.1 x.2.1).1, ()), ((repR x.1 x.2.1).2, (), ())) }
end Go.Spec
