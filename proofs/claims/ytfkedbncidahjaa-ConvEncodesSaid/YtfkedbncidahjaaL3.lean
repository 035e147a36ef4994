/- The abstract operations that touch no memory, and that they tell what the machine does. -/
import Derived.Test.YtfkedbncidahjaaL2
import Derived.Laws.Entries
import Derived.Laws.Cells
import Derived.Laws.MakeOwn
import Derived.Laws.IdiomCopy
import Derived.Laws.BytesArg
import Derived.Laws.IdiomStrings
set_option linter.unusedVariables false
set_option linter.unusedSimpArgs false
namespace Go.Lift
open Go

theorem VRel.cells_one {ok : Nat → Prop} {w : World} {t : Ty} {x : t.den} {v : Value} (h : VRel ok w t x v) (ht : t.agg = false) : v.cells = #[v] := by
  have := h.2.2
  rw [ht] at this
  cases v <;> first | rfl | (simp [Value.isAgg] at this)
theorem VRel.int_eq {ok : Nat → Prop} {w : World} {k : IntKind} {x : Int} {v : Value} (h : VRel ok w (.int k) x v) : v = .int k x := by
  have h1 := h.1
  rw [h.cells_one rfl] at h1
  simpa [Ty.rd] using h1
theorem VRel.bool_eq {ok : Nat → Prop} {w : World} {x : Bool} {v : Value} (h : VRel ok w .bool x v) : v = .bool x := by
  have h1 := h.1
  rw [h.cells_one rfl] at h1
  simpa [Ty.rd] using h1
theorem VRel.str_eq {ok : Nat → Prop} {w : World} {x : ByteArray} {v : Value} (h : VRel ok w .str x v) : v = .string x := by
  have h1 := h.1
  rw [h.cells_one rfl] at h1
  simpa [Ty.rd] using h1
theorem VRel.of_int (ok : Nat → Prop) (w : World) (k : IntKind) (x : Int) : VRel ok w (.int k) x (.int k x) := ⟨rfl, rfl, rfl⟩
theorem VRel.of_bool (ok : Nat → Prop) (w : World) (x : Bool) : VRel ok w .bool x (.bool x) := ⟨rfl, rfl, rfl⟩
theorem VRel.of_str (ok : Nat → Prop) (w : World) (x : ByteArray) : VRel ok w .str x (.string x) := ⟨rfl, rfl, rfl⟩

def vI (k : IntKind) (x : Int) : SV := .val (.int k) x
def vB (b : Bool) : SV := .val .bool b
def vS (s : ByteArray) : SV := .val .str s

def intOp (op : BinOp) (k : IntKind) (a b : Int) : Option (List Prop × SV) :=
  match op with
  | .add => some ([], vI k (k.wrap (a + b)))
  | .sub => some ([], vI k (k.wrap (a - b)))
  | .mul => some ([], vI k (k.wrap (a * b)))
  | .quo => some ([b ≠ 0], vI k (k.wrap (a.tdiv b)))
  | .rem => some ([b ≠ 0], vI k (a.tmod b))
  | .and => some ([], vI k (bits .and k a b))
  | .or => some ([], vI k (bits .or k a b))
  | .xor => some ([], vI k (bits .xor k a b))
  | .andNot => some ([], vI k (bits .andNot k a b))
  | .eql => some ([], vB (a == b))
  | .neq => some ([], vB (a != b))
  | .lss => some ([], vB (decide (a < b)))
  | .leq => some ([], vB (decide (a ≤ b)))
  | .gtr => some ([], vB (decide (a > b)))
  | .geq => some ([], vB (decide (a ≥ b)))
  | _ => none

def strOp (op : BinOp) (a b : ByteArray) : Option (List Prop × SV) :=
  match op with
  | .eql => some ([], vB (a.toList == b.toList))
  | .neq => some ([], vB (!(a.toList == b.toList)))
  | .add => some ([((a.size + b.size : Nat) : Int) ≤ 9223372036854775807], vS (a ++ b))
  | _ => none

def binV (op : BinOp) (x y : SV) : Option (List Prop × SV) :=
  match x, y with
  | .val (.int k) a, .val (.int k') b =>
    match op with
    | .shl => some ([0 ≤ b], vI k (k.wrap (a * 2 ^ (min b.toNat k.bits))))
    | .shr => some ([0 ≤ b], vI k (a.fdiv (2 ^ (min b.toNat k.bits))))
    | op => if k = k' then intOp op k a b else none
  | .val .str a, .val .str b => strOp op a b
  | .val .bool a, .val .bool b =>
    match op with
    | .eql => some ([], vB (a == b))
    | .neq => some ([], vB (a != b))
    | _ => none
  | _, _ => none

theorem run_equalIn_bool {P : Program} {w : World} {t : TypeId} (h : P.underlying t = some .bool) (a b : Bool) (d : Nat) : (Op.equalIn (d + 1) t (.bool a) (.bool b)).run P w = .ok (a == b) w := by
  simp [Op.equalIn, run_underlying h]
theorem run_equal_bool {P : Program} {w : World} {t : TypeId} (h : P.underlying t = some .bool) (a b : Bool) : (Op.equal t (.bool a) (.bool b)).run P w = .ok (a == b) w :=
  run_equalIn_bool h a b 9999

theorem binV_sound {P : Program} {rs : Regs} {φ : Phi} {ok : Nat → Prop} {w : World} {op : BinOp} {t : TypeId} {x y v : SV} {vc : List Prop} {X Y : Value} (xo yo : Operand)
    (h : binV op x y = some (vc, v)) (hvc : ∀ p ∈ vc, p) (ht : ∀ b, x = .val .bool b → P.underlying t = some .bool)
    (hx : SVRel rs φ ok w x X) (hy : SVRel rs φ ok w y Y) :
    ∃ V, (do eqGuard op t xo yo X Y; binOp op t X Y : Sem Value).run P w = .ok V w ∧ SVRel rs φ ok w v V := by
  unfold binV at h
  split at h
  · rename_i k a k' b
    have eX : X = .int k a := VRel.int_eq hx
    have eY : Y = .int k' b := VRel.int_eq hy
    subst eX; subst eY
    split at h
    · cases h
      have h0 : 0 ≤ b := hvc _ (by simp)
      refine ⟨_, ?_, VRel.of_int _ _ _ _⟩
      simp [eqGuard_at_int, binOp, Op.shift, Int.not_lt.2 h0]
    · cases h
      have h0 : 0 ≤ b := hvc _ (by simp)
      refine ⟨_, ?_, VRel.of_int _ _ _ _⟩
      simp [eqGuard_at_int, binOp, Op.shift, Int.not_lt.2 h0]
    · rename_i n1 n2
      split at h
      · rename_i hk
        subst hk
        unfold intOp at h
        split at h <;> first | (cases h; done) | skip
        all_goals (cases h)
        · exact ⟨_, by simp [eqGuard_at_int, binOp_add, Op.intArith], VRel.of_int _ _ _ _⟩
        · exact ⟨_, by simp [eqGuard_at_int, binOp_sub, Op.intArith], VRel.of_int _ _ _ _⟩
        · exact ⟨_, by simp [eqGuard_at_int, binOp_mul, Op.intArith], VRel.of_int _ _ _ _⟩
        · have h0 : b ≠ 0 := hvc _ (by simp)
          exact ⟨_, by simp [eqGuard_at_int, binOp_quo, Op.intDiv, h0], VRel.of_int _ _ _ _⟩
        · have h0 : b ≠ 0 := hvc _ (by simp)
          exact ⟨_, by simp [eqGuard_at_int, binOp_rem, Op.intDiv, h0], VRel.of_int _ _ _ _⟩
        · exact ⟨_, by simp [eqGuard_at_int, binOp_and, intBits_and], VRel.of_int _ _ _ _⟩
        · exact ⟨_, by simp [eqGuard_at_int, binOp_or, intBits_or], VRel.of_int _ _ _ _⟩
        · exact ⟨_, by simp [eqGuard_at_int, binOp_xor, intBits_xor], VRel.of_int _ _ _ _⟩
        · exact ⟨_, by simp [eqGuard_at_int, binOp_andNot, intBits_andNot], VRel.of_int _ _ _ _⟩
        · exact ⟨_, by simp [eqGuard_at_int, binOp_eql], VRel.of_bool _ _ _⟩
        · exact ⟨_, by simp [eqGuard_at_int, binOp_neq], VRel.of_bool _ _ _⟩
        · exact ⟨_, by simp [eqGuard_at_int, binOp_lss], VRel.of_bool _ _ _⟩
        · exact ⟨_, by simp [eqGuard_at_int, binOp_leq], VRel.of_bool _ _ _⟩
        · exact ⟨_, by simp [eqGuard_at_int, binOp_gtr], VRel.of_bool _ _ _⟩
        · exact ⟨_, by simp [eqGuard_at_int, binOp_geq], VRel.of_bool _ _ _⟩
      · cases h
  · rename_i a b
    have eX : X = .string a := VRel.str_eq hx
    have eY : Y = .string b := VRel.str_eq hy
    subst eX; subst eY
    unfold strOp at h
    split at h <;> first | (cases h; done) | skip
    all_goals (cases h)
    · exact ⟨_, by simp [eqGuard_at_string, binOp, Op.stringOp], VRel.of_bool _ _ _⟩
    · exact ⟨_, by simp [eqGuard_at_string, binOp, Op.stringOp], VRel.of_bool _ _ _⟩
    · have h0 := hvc _ (List.mem_singleton.2 rfl)
      have h1 : ¬ (((a.size + b.size : Nat) : Int) > IntKind.i64.max) := by
        have : IntKind.i64.max = 9223372036854775807 := by decide
        omega
      refine ⟨_, ?_, VRel.of_str _ _ _⟩
      simp only [eqGuard_at_string, binOp, Op.stringOp, if_neg h1, Sem.run_bind, Sem.run_pure, Result.andThen_ok]
  · rename_i a b
    have eX : X = .bool a := VRel.bool_eq hx
    have eY : Y = .bool b := VRel.bool_eq hy
    subst eX; subst eY
    have hu := ht a rfl
    split at h <;> first | (cases h; done) | skip
    all_goals (cases h)
    · exact ⟨_, by simp [eqGuard_at_bool, binOp, run_equal_bool hu], VRel.of_bool _ _ _⟩
    · exact ⟨_, by simp [eqGuard_at_bool, binOp, run_equal_bool hu, bne], VRel.of_bool _ _ _⟩
  · cases h

end Go.Lift
