/- What the functions answer: a sender of blocks. -/
import Derived.Test.YtppemehkbnbjlaaM2
import Derived.Test.YtppemehkbnbjlaaX1
set_option linter.unusedVariables false
set_option linter.unusedSimpArgs false
namespace Go.Spec
open Go Go.Lift
def big : Int := 2 ^ 50
def S_R_SameInts : Summ := { par := [.v (.ro (.int .i64)), .v (.ro (.int .i64))], res := [.v .bool], esc := false, pre := fun x => (x.1.length : Int) ≤ big, fn := fun x => ((decide (x.1 = x.2.1), ()), ((), (), ())) }
def p_R_SameInts_0 (t0 t1 : List Int) (t5 : Int) : Prop := t0.length = t1.length ∧ 0 ≤ t5 ∧ t5 ≤ t0.length ∧ (t0.length : Int) ≤ big
def m_R_SameInts_0 (t0 _t1 : List Int) (t5 : Int) : Nat := t0.length - t5.toNat
def o_R_SameInts_0 (t0 t1 : List Int) (t5 : Int) (K : AExit → St → Prop) : Prop := condP (decide (t0.drop t5.toNat = t1.drop t5.toNat)) (X_R_SameInts_0_1 K) (X_R_SameInts_0_0 false K)
abbrev tyBL : Ty := .pair .str (.pair (.int .i64) (.pair .bool .unit))
abbrev tyHS : Ty := .pair (.int .i64) (.pair (.arr 8 .bool) (.pair (.map (.int .i64) (.ptr tyBL)) .unit))
abbrev tyRS : Ty := .pair (.int .i64) (.pair (.arr 8 (.pair .bool (.pair .bool (.pair .bool (.pair .str (.pair (.int .i64) .unit)))))) .unit)
abbrev tySH : Ty := .pair (.int .i64) (.pair (.int .i64) (.pair .bool (.pair .str .unit)))
def newS (limit : Int) : Option HS × Int := if 1 ≤ limit ∧ limit ≤ 8 then (some (limit, List.replicate 8 false, some [], ()), 0) else (none, 1)
def S_harq_NewSender : Summ := { par := [.v (.int .i64)], res := [.obox tyHS, .v (.int .i64)], esc := false, pre := fun _ => True, fn := fun x => (((newS x.1).1, (newS x.1).2, ()), ((), ())) }
def S_harq_Sender_Submit : Summ := { par := [.box tyHS, .v .str], res := [.v (.int .i64), .v (.int .i64)], esc := false, pre := fun x => (Prod.fst (Prod.snd (Prod.snd x.1))).isSome = true, fn := fun x => (((subS x.1 x.2.1).1.1, (subS x.1 x.2.1).1.2, ()), ((subS x.1 x.2.1).2, (), ())) }
def p_harq_Sender_Submit_0 (_t1 : ByteArray) (t10 : Int) (r0 : HS) : Prop := 0 ≤ t10 ∧ t10 ≤ 8 ∧ r0.2.2.1.isSome = true
def m_harq_Sender_Submit_0 (_t1 : ByteArray) (t10 : Int) (_r0 : HS) : Nat := (8 - t10).toNat
def o_harq_Sender_Submit_0 (t1 : ByteArray) (t10 : Int) (r0 : HS) (K : AExit → St → Prop) : Prop := condP (freeS r0 t10).isSome (X_harq_Sender_Submit_0_0 ((freeS r0 t10).getD 0) 0 (putS r0 ((freeS r0 t10).getD 0) t1) K) (X_harq_Sender_Submit_0_1 r0 K)
def S_R_Tries_Submit : Summ := { par := [.box tyRS, .v .str], res := [.v (.int .i64), .v (.int .i64)], esc := false, pre := fun _ => True, fn := fun x => (((subR x.1 x.2.1).1.1, (subR x.1 x.2.1).1.2, ()), ((subR x.1 x.2.1).2, (), ())) }
def p_R_Tries_Submit_0 (_t1 : ByteArray) (t6 : Int) (_r0 : RS) : Prop := 0 ≤ t6 ∧ t6 ≤ 8
def m_R_Tries_Submit_0 (_t1 : ByteArray) (t6 : Int) (_r0 : RS) : Nat := (8 - t6).toNat
def o_R_Tries_Submit_0 (t1 : ByteArray) (t6 : Int) (r0 : RS) (K : AExit → St → Prop) : Prop := condP (freeR r0 t6).isSome (X_R_Tries_Submit_0_0 ((freeR r0 t6).getD 0) 0 (putR r0 ((freeR r0 t6).getD 0) t1) K) (X_R_Tries_Submit_0_1 r0 K)
def S_harq_Sender_Next : Summ := { par := [.box tyHS, .v (.int .i64)], res := [.v tySH, .v (.int .i64)], esc := false, pre := fun x => 0 ≤ Prod.fst x.2 ∧ Prod.fst x.2 ≤ 7 → ∀ b, blk x.1 x.2.1 = some b → 0 ≤ b.2.1 ∧ b.2.1 ≤ 8, fn := fun x => (((nextS x.1 x.2.1).1.1, (nextS x.1 x.2.1).1.2, ()), ((nextS x.1 x.2.1).2, (), ())) }
def S_R_Tries_Next : Summ := { par := [.box tyRS, .v (.int .i64)], res := [.v tySH, .v (.int .i64)], esc := false, pre := fun x => (Prod.fst (Prod.snd x.1)).length = 8 ∧ (0 ≤ Prod.fst x.2 ∧ Prod.fst x.2 ≤ 7 → (proc x.1 x.2.1).1 = true → (proc x.1 x.2.1).2.2.1 = false → 0 ≤ (proc x.1 x.2.1).2.2.2.2.1 ∧ (proc x.1 x.2.1).2.2.2.2.1 < 8), fn := fun x => (((nextR x.1 x.2.1).1.1, (nextR x.1 x.2.1).1.2, ()), ((nextR x.1 x.2.1).2, (), ())) }
def S_harq_Sender_Answer : Summ := { par := [.box tyHS, .v (.int .i64), .v .bool], res := [.v .bool, .v (.int .i64)], esc := false, pre := fun x => (Prod.fst (Prod.snd (Prod.snd x.1))).isSome = true, fn := fun x => (((ansS x.1 x.2.1 x.2.2.1).1.1, (ansS x.1 x.2.1 x.2.2.1).1.2, ()), ((ansS x.1 x.2.1 x.2.2.1).2, (), (), ())) }
def S_R_Tries_Answer : Summ := { par := [.box tyRS, .v (.int .i64), .v .bool], res := [.v .bool, .v (.int .i64)], esc := false, pre := fun x => (Prod.fst (Prod.snd x.1)).length = 8, fn := fun x => (((ansR x.1 x.2.1 x.2.2.1).1.1, (ansR x.1 x.2.1 x.2.2.1).1.2, ()), ((ansR x.1 x.2.1 x.2.2.1).2, (), (), ())) }
def S_harq_Sender_Waiting : Summ := { par := [.box tyHS], res := [.row (.int .i64)], esc := false, pre := fun _ => True, fn := fun x => ((waitS x.1 0, ()), (x.1, ())) }
def p_harq_Sender_Waiting_0 (t5 : Int) (_r0 : HS) (r1 : List Int) : Prop := 0 ≤ t5 ∧ t5 ≤ 8 ∧ (r1.length : Int) ≤ t5
def m_harq_Sender_Waiting_0 (t5 : Int) (_r0 : HS) (_r1 : List Int) : Nat := (8 - t5).toNat
def o_harq_Sender_Waiting_0 (t5 : Int) (r0 : HS) (r1 : List Int) (K : AExit → St → Prop) : Prop := X_harq_Sender_Waiting_0_0 r0 (r1 ++ waitS r0 t5) K
def S_R_Tries_Waiting : Summ := { par := [.box tyRS], res := [.row (.int .i64)], esc := false, pre := fun _ => True, fn := fun x => ((waitR x.1 0, ()), (x.1, ())) }
def p_R_Tries_Waiting_0 (t4 : Int) (_r0 : RS) (r1 : List Int) : Prop := 0 ≤ t4 ∧ t4 ≤ 8 ∧ (r1.length : Int) ≤ t4
def m_R_Tries_Waiting_0 (t4 : Int) (_r0 : RS) (_r1 : List Int) : Nat := (8 - t4).toNat
def o_R_Tries_Waiting_0 (t4 : Int) (r0 : RS) (r1 : List Int) (K : AExit → St → Prop) : Prop := X_R_Tries_Waiting_0_0 r0 (r1 ++ waitR r0 t4) K
end Go.Spec
