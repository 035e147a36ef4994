/- What the functions answer: all that is picked and heard is added. -/
import Derived.Test.YtppemehkbnbjlaaM16
import Derived.Test.YtppemehkbnbjlaaX9
set_option linter.unusedVariables false
set_option linter.unusedSimpArgs false
namespace Go.Spec
open Go Go.Lift
def S_keep_good : Summ := { par := [.v (.ro (.int .u8)), .v (.int .i64)], res := [.row (.int .u8)], esc := false, pre := fun x => (x.1.length : Int) ≤ big ∧ (∀ y ∈ x.1, 0 ≤ y) ∧ 0 ≤ Prod.fst x.2 ∧ Prod.fst x.2 ≤ 100000, fn := fun x => ((goodL x.1 (Prod.fst x.2).toNat, ()), ((), (), ())) }
def p_keep_good_0 (t0 : List Int) (t1 t6 : Int) (r0 : List Int) : Prop := (t0.length : Int) ≤ big ∧ (∀ y ∈ t0, 0 ≤ y) ∧ 0 ≤ t6 ∧ t6 ≤ t1 ∧ t6 ≤ t0.length ∧ t1 ≤ 100000 ∧ (r0.length : Int) = t6
def m_keep_good_0 (t0 : List Int) (_t1 t6 : Int) (_r0 : List Int) : Nat := (t0.length - t6).toNat
def o_keep_good_0 (t0 : List Int) (t1 t6 : Int) (r0 : List Int) (K : AExit → St → Prop) : Prop := X_keep_good_0_0 (r0 ++ goodL (t0.drop t6.toNat) (t1 - t6).toNat) K
def S_keep_heard : Summ := { par := [.v (.ro (.int .u8)), .v (.ro (.int .i64))], res := [.row (.int .i64), .v .bool], esc := false, pre := fun x => (List.length x.1 : Int) ≤ 1000000 ∧ (List.length (Prod.fst x.2) : Int) ≤ big, fn := fun x => ((hrd x.1 x.2.1, true, ()), ((), (), ())) }
def p_keep_heard_0 (t0 t1 : List Int) (t7 : Int) (r0 : List Int) : Prop := (t0.length : Int) ≤ 1000000 ∧ (t1.length : Int) ≤ big ∧ 0 ≤ t7 ∧ t7 ≤ t0.length ∧ (r0.length : Int) = t7
def m_keep_heard_0 (t0 _t1 : List Int) (t7 : Int) (_r0 : List Int) : Nat := (t0.length - t7).toNat
def o_keep_heard_0 (t0 t1 : List Int) (t7 : Int) (r0 : List Int) (K : AExit → St → Prop) : Prop := X_keep_heard_0_0 (r0 ++ seg (fun i => sgS (t0.getD i 0) (lvF t1 i)) t7.toNat t0.length) K
def smallOK (l : List Int) : Prop := (l.length : Int) * 8 ≤ 140737488351232
def S_keep_small : Summ := { par := [.v (.ro (.int .i64))], res := [.row (.int .i64)], esc := false, pre := fun x => smallOK x.1, fn := fun x => ((smallL x.1, ()), ((), ())) }
def p_keep_small_0 (t0 : List Int) (t4 : Int) (r0 : List Int) : Prop := smallOK t0 ∧ 0 ≤ t4 ∧ t4 ≤ t0.length ∧ (r0.length : Int) = t4
def m_keep_small_0 (t0 : List Int) (t4 : Int) (_r0 : List Int) : Nat := (t0.length - t4).toNat
def o_keep_small_0 (t0 : List Int) (t4 : Int) (r0 : List Int) (K : AExit → St → Prop) : Prop := X_keep_small_0_0 (r0 ++ smallL (t0.drop t4.toNat)) K
def allOK (a0 a1 a2 : List Int) : Prop := ((a0.length : Int) ≤ big ∧ ∀ y ∈ a0, 0 ≤ y) ∧ smallOK a1 ∧ (a2.length : Int) ≤ big
def S_keep_MatchAll : Summ := { par := [.v (.ro (.int .u8)), .v (.ro (.int .i64)), .v (.ro (.int .i64))], res := [.v .bool], esc := false, pre := fun x => allOK x.1 x.2.1 x.2.2.1, fn := fun _ => ((true, ()), ((), (), (), ())) }
abbrev Buf := Option (List Int × Unit)
def AB (c loud counts : List Int) (k x y : Nat) (r1 r2 : Buf) : Prop := ∃ a b, r1 = some (a, ()) ∧ r2 = some (b, ()) ∧ a.length = c.length ∧ b.length = c.length ∧ ∀ q : Nat, q < c.length → a.getD q 0 = tot c loud counts x q ∧ b.getD q 0 = tot c loud counts k q - tot c loud counts y q
def p_keep_MatchAll_0 (_t1 _t2 : List Int) (_t8 t10 : Int) (_r0 r1 : List Int) (r2 : Option (List (Int × Int))) : Prop := r1.Nodup ∧ r1.length ≤ 4096 ∧ 0 ≤ t10 ∧ t10 ≤ r1.length ∧ ∃ es, r2 = some es ∧ (es.length : Int) = t10 ∧ ∀ k, (getE es k).isSome = true → k ∈ r1.take t10.toNat
def m_keep_MatchAll_0 (_t1 _t2 : List Int) (_t8 t10 : Int) (_r0 r1 : List Int) (_r2 : Option (List (Int × Int))) : Nat := (r1.length - t10).toNat
def o_keep_MatchAll_0 (t1 t2 : List Int) (t8 _t10 : Int) (r0 r1 : List Int) (_r2 : Option (List (Int × Int))) (K : AExit → St → Prop) : Prop := ∀ es : List (Int × Int), es.length = r1.length → X_keep_MatchAll_0_0 t1 t2 t8 r0 r1 (some es) K
def p_keep_MatchAll_2 (t1 t2 : List Int) (t15 t16 : Int) (r0 : List Int) (r1 r2 : Buf) : Prop := Coded r0 ∧ smallOK t1 ∧ 0 ≤ t16 ∧ t16 ≤ t15 ∧ t15 ≤ 8 ∧ t15 ≤ t2.length ∧ AB r0 t1 t2 t15.toNat t16.toNat (t15 - t16).toNat r1 r2
def m_keep_MatchAll_2 (_t1 _t2 : List Int) (t15 t16 : Int) (_r0 : List Int) (_r1 _r2 : Buf) : Nat := (t15 - t16).toNat
def o_keep_MatchAll_2 (t1 t2 : List Int) (t15 _t16 : Int) (r0 : List Int) (_r1 _r2 : Buf) (K : AExit → St → Prop) : Prop := ∀ a b : List Int, AB r0 t1 t2 t15.toNat t15.toNat 0 (some (a, ())) (some (b, ())) → X_keep_MatchAll_2_3 r0 (some (a, ())) (some (b, ())) K
def p_keep_MatchAll_4 (t1 t2 : List Int) (t15 t16 t17 : Int) (r0 : List Int) (r1 r2 : Buf) : Prop := Coded r0 ∧ smallOK t1 ∧ 0 ≤ t16 ∧ t16 < t15 ∧ t15 ≤ 8 ∧ t15 ≤ t2.length ∧ 0 ≤ t17 ∧ t17 ≤ 2 ∧ AB r0 t1 t2 t15.toNat (if 1 ≤ t17 then t16 + 1 else t16).toNat (if 2 ≤ t17 then t15 - t16 - 1 else t15 - t16).toNat r1 r2
def m_keep_MatchAll_4 (_t1 _t2 : List Int) (_t15 _t16 t17 : Int) (_r0 : List Int) (_r1 _r2 : Buf) : Nat := (2 - t17).toNat
def o_keep_MatchAll_4 (t1 t2 : List Int) (t15 t16 _t17 : Int) (r0 : List Int) (_r1 _r2 : Buf) (K : AExit → St → Prop) : Prop := ∀ a b : List Int, AB r0 t1 t2 t15.toNat (t16 + 1).toNat (t15 - (t16 + 1)).toNat (some (a, ())) (some (b, ())) → X_keep_MatchAll_4_3 t1 t2 t15 t16 r0 (some (a, ())) (some (b, ())) K
def p_keep_MatchAll_6 (t25 : Int) (r0 r1 : List Int) : Prop := r1.length = r0.length ∧ r0.length ≤ 600 ∧ 0 ≤ t25 ∧ t25 ≤ r0.length ∧ ∀ q : Nat, q < r0.length → (r0.getD q 0 = 1 → r1.getD q 0 ≤ 0) ∧ (r0.getD q 0 = 0 → 0 ≤ r1.getD q 0)
def m_keep_MatchAll_6 (t25 : Int) (r0 _r1 : List Int) : Nat := (r0.length - t25).toNat
def o_keep_MatchAll_6 (_t25 : Int) (_r0 _r1 : List Int) (K : AExit → St → Prop) : Prop := X_keep_MatchAll_6_1 K
end Go.Spec
