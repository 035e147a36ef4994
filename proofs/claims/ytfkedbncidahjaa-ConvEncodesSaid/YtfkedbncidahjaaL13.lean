/- One operation (but for the calls of functions), abstract, and that it tells what the machine does. -/
import Derived.Test.YtfkedbncidahjaaL12
import Derived.Laws.Pointers
set_option linter.unusedVariables false
set_option linter.unusedSimpArgs false
namespace Go.Lift
open Go

def constAV : Value → Option SV
  | .int k n => some (vI k n)
  | .bool b => some (vB b)
  | .string s => some (vS s)
  | .slice none 0 0 => some .nilsl
  | .pointer none => some .nilp
  | _ => none
theorem constAV_sound {rs : Regs} {φ : Phi} {ok : Nat → Prop} {w : World} {V : Value} {v : SV} (h : constAV V = some v) : SVRel rs φ ok w v V := by
  unfold constAV at h
  split at h <;> cases h
  · exact VRel.of_int _ _ _ _
  · exact VRel.of_bool _ _ _
  · exact VRel.of_str _ _ _
  · rfl
  · rfl

def opnd (tm : List AV) : Operand → Option AV
  | .tmp t => tm[t]?
  | .const v => (constAV v).map AV.s
  | .func f => some (.fn f [])
  | .global _ => none
theorem opnd_sound {cx : Cx} {φ : Phi} {st : St} {a : Act} {w : World} (R : RelF cx φ st a w) {x : Operand} {v : AV} (h : opnd st.tmps x = some v) : AVRel st.regs φ (okOf st.regs φ) w v (a.eval x) := by
  cases x with
  | tmp t => exact R.tm t v h
  | const c =>
    simp only [opnd, Option.map_eq_some_iff] at h
    obtain ⟨s, hs, rfl⟩ := h
    exact constAV_sound hs
  | global g => simp [opnd] at h
  | func f => simp only [opnd, Option.some.injEq] at h; subst h; exact ⟨#[], rfl, .nil⟩

def mapParts (arg : Operand → Option SV) : List (Nat × Operand) → Option (List (Nat × SV))
  | [] => some []
  | (i, x) :: rest => match arg x, mapParts arg rest with
    | some v, some vs => some ((i, v) :: vs)
    | _, _ => none
theorem mapParts_sound {arg : Operand → Option SV} {ev : Operand → Value} {S : SV → Value → Prop} (h : ∀ x v, arg x = some v → S v (ev x)) : ∀ (ps : List (Nat × Operand)) (vs : List (Nat × SV)), mapParts arg ps = some vs →
    Parts2 S vs (ps.map fun p => (p.1, ev p.2))
  | [], vs, hm => by simp only [mapParts, Option.some.injEq] at hm; subst hm; exact .nil
  | (i, x) :: rest, vs, hm => by
    simp only [mapParts] at hm
    split at hm
    · rename_i v vs' h1 h2
      cases hm
      exact .cons (h _ _ h1) (mapParts_sound h rest vs' h2)
    · cases hm
def mapArgs (arg : Operand → Option SV) : List Operand → Option (List SV)
  | [] => some []
  | x :: rest => match arg x, mapArgs arg rest with
    | some v, some vs => some (v :: vs)
    | _, _ => none
theorem mapArgs_sound {arg : Operand → Option SV} {ev : Operand → Value} {S : SV → Value → Prop} (h : ∀ x v, arg x = some v → S v (ev x)) : ∀ (ps : List Operand) (vs : List SV), mapArgs arg ps = some vs → All2 S vs (ps.map ev)
  | [], vs, hm => by simp only [mapArgs, Option.some.injEq] at hm; subst hm; exact .nil
  | x :: rest, vs, hm => by
    simp only [mapArgs] at hm
    split at hm
    · rename_i v vs' h1 h2
      cases hm
      exact .cons (h _ _ h1) (mapArgs_sound h rest vs' h2)
    · cases hm

abbrev Out := List Prop × AV × Eff

def isPtr (P : Program) (t : TypeId) : Bool :=
  match P.underlying t with
  | some (.pointer _) => true
  | _ => false
def nilV (P : Program) (rs : Regs) (op : BinOp) (t : TypeId) (x y : SV) : Option SV :=
  match op, x, y with
  | .eql, .addr r [], .nilp => if isPtr P t = true then (match look rs r with
      | some (.obox _ o) => some (vB o.isNone)
      | some (.box _ _) => some (vB false)
      | _ => none) else none
  | .neq, .addr r [], .nilp => if isPtr P t = true then (match look rs r with
      | some (.obox _ o) => some (vB (!o.isNone))
      | some (.box _ _) => some (vB true)
      | _ => none) else none
  | _, _, _ => none

def unV (op : UnOp) (x : SV) : Option SV :=
  match op, x with
  | .not, .val .bool b => some (vB (!b))
  | .neg, .val (.int k) n => some (vI k (k.wrap (0 - n)))
  | .xor, .val (.int k) n => some (vI k (bits .xor k (if k.signed then -1 else k.max) n))
  | _, _ => none

def boolT (P : Program) (t : TypeId) (x : SV) : Bool :=
  match x with
  | .val .bool _ => match P.underlying t with
    | some .bool => true
    | _ => false
  | _ => true
theorem boolT_spec {P : Program} {t : TypeId} {x : SV} (h : boolT P t x = true) : ∀ b, x = .val .bool b → P.underlying t = some .bool := by
  intro b hb
  subst hb
  unfold boolT at h
  split at h
  · split at h
    · assumption
    · cases h
  · rename_i hne; exact (hne _ rfl).elim

def o3 (r : Option (List Prop × SV)) : Option Out := r.map fun p => (p.1, .s p.2, [])
def o1 (r : Option SV) : Option Out := r.map fun v => ([], .s v, [])
def oe (r : Option (SV × Eff)) : Option Out := r.map fun p => ([], .s p.1, p.2)
def of3 (r : Option (List Prop × SV × Eff)) : Option Out := r.map fun p => (p.1, .s p.2.1, p.2.2)

def optArg (arg : Operand → Option SV) : Option Operand → Option (Option SV)
  | none => some none
  | some x => (arg x).map some

def core (P : Program) (rs : Regs) (n : Nat) (arg : Operand → Option SV) (argA : Operand → Option AV) (o : Oper) : Option Out :=
  match o.op with
  | .move x => (argA x).map fun v => ([], v, [])
  | .assign x => (argA x).map fun v => ([], v, [])
  | .alloc t => oe (allocV P t n)
  | .box _ x => match arg x with
    | some x => oe (boxV x n)
    | none => none
  | .build t parts => match mapParts arg parts.toList with
    | some vs => oe (buildV P rs t vs)
    | none => none
  | .buildSlice t len parts => match mapParts arg parts.toList with
    | some vs => oe (buildSliceV P rs t len vs n)
    | none => none
  | .load t x => match arg x with
    | some x => o1 (loadV P rs t x)
    | none => none
  | .store t x v => match arg x, arg v with
    | some x, some v => (storeV P rs t x v).map fun e => ([], .s .undef, e)
    | _, _ => none
  | .nilCheck x => match arg x with
    | some (.addr r p) => match look rs r with
      | some (.obox τ o) => match p with
        | [] => some ([o.isSome = true], .s (.addr r []), [.set (some r) r (.box τ (o.getD τ.dflt))])
        | _ => none
      | some _ => some ([], .s (.addr r p), [])
      | none => none
    | some (.ra t x) => some ([], .s (.ra t x), [])
    | _ => none
  | .binOp op t x y _ => match arg x, arg y with
    | some x, some y => match nilV P rs op t x y with
      | some v => some ([], .s v, [])
      | none => if boolT P t x = true then o3 (binV op x y) else none
    | _, _ => none
  | .unOp op _ x => match arg x with
    | some x => o1 (unV op x)
    | none => none
  | .convert src dst x => match arg x with
    | some x => match convV P src dst x with
      | some v => some ([], .s v, [])
      | none => match strOfV P rs src dst x with
        | some v => some ([], .s v, [])
        | none => oe (bytesV P src dst x n)
    | none => none
  | .makeFunc (.func f) first captured => if first.toList.isEmpty = true then (mapArgs arg captured.toList).map fun vs => ([], .fn f vs, []) else none
  | .makeSlice t l c => match arg l, arg c with
    | some l, some c => of3 (makeV P t l c n)
    | _, _ => none
  | .slice t x lo hi mx => match arg x, optArg arg lo, optArg arg hi, optArg arg mx with
    | some x, some lo, some hi, some mx => of3 (sliceV P rs t x lo hi mx n)
    | _, _, _, _ => none
  | .fieldAddr t x k => match arg x with
    | some x => of3 (fieldA P rs t x k)
    | none => none
  | .field t x k => match arg x with
    | some x => o1 (fieldV P t x k)
    | none => none
  | .indexAddr t x i => match arg x, arg i with
    | some x, some i => o3 (indexA P rs t x i)
    | _, _ => none
  | .index t x i => match arg x, arg i with
    | some x, some i => o3 (indexV P t x i)
    | _, _ => none
  | .extract x i => match argA x with
    | some (.tup vs) => (vs[i]?).map fun v => ([], .s v, [])
    | _ => none
  | .panic _ => some ([False], .s .undef, [])
  | .makeInterface t _ => match P.underlying t with
    | some (.interface _) => none
    | some _ => some ([], .s .undef, [])
    | none => none
  | .call { callee := .builtin b, args := args, argTypes := ts } => match b with
    | .len => match args.toList, ts.toList with
      | [x], [t] => match arg x with
        | some x => o1 (lenV P rs t x)
        | none => none
      | _, _ => none
    | .append => match args.toList, ts.toList with
      | [s, x], [sT, xT] => match arg s, arg x with
        | some s, some x => of3 (appendV P rs sT xT s x n)
        | _, _ => none
      | _, _ => none
    | .min => match mapArgs arg args.toList with
      | some vs => o1 (minV' false vs)
      | none => none
    | .max => match mapArgs arg args.toList with
      | some vs => o1 (minV' true vs)
      | none => none
    | _ => none
  | _ => none

/-- What an operation that calls no function comes to. -/
def Tells (cx : Cx) (st : St) (a : Act) (w : World) (o : Oper) (av : AV) (e : Eff) : Prop :=
  ∃ r V w' φ', (execOp a.eval o).run cx.P w = .ok r w' ∧ (r = .value V ∨ (r = .skip ∧ V = undef)) ∧ RelF cx φ' { st with regs := e.app st.regs } a w' ∧
    AVRel (e.app st.regs) φ' (okOf (e.app st.regs) φ') w' av V

theorem tells_pure {cx : Cx} {φ : Phi} {st : St} {a : Act} {w : World} (R : RelF cx φ st a w) {o : Oper} {v : SV} {s : Sem Value} (hs : execOp a.eval o = (do pure (.value (← s))))
    (h : ∃ V, s.run cx.P w = .ok V w ∧ SVRel st.regs φ (okOf st.regs φ) w v V) : Tells cx st a w o (.s v) [] := by
  obtain ⟨V, h1, h2⟩ := h
  exact ⟨.value V, V, w, φ, by rw [hs]; simp [h1], .inl rfl, R, h2⟩
theorem tells_eff {cx : Cx} {st : St} {a : Act} {w : World} {o : Oper} {v : SV} {e : Eff} {s : Sem Value} (hs : execOp a.eval o = (do pure (.value (← s))))
    (h : ∃ V w' φ', s.run cx.P w = .ok V w' ∧ RelF cx φ' { st with regs := e.app st.regs } a w' ∧ SVRel (e.app st.regs) φ' (okOf (e.app st.regs) φ') w' v V) : Tells cx st a w o (.s v) e := by
  obtain ⟨V, w', φ', h1, h2, h3⟩ := h
  exact ⟨.value V, V, w', φ', by rw [hs]; simp [h1], .inl rfl, h2, h3⟩

theorem unV_sound {P : Program} {rs : Regs} {φ : Phi} {ok : Nat → Prop} {w : World} {op : UnOp} {x v : SV} {X : Value} (h : unV op x = some v) (hx : SVRel rs φ ok w x X) :
    ∃ V, (Op.unary op X).run P w = .ok V w ∧ SVRel rs φ ok w v V := by
  unfold unV at h
  split at h <;> cases h
  · have eX := VRel.bool_eq hx
    subst eX
    exact ⟨_, by simp [Op.unary], VRel.of_bool _ _ _⟩
  · have eX := VRel.int_eq hx
    subst eX
    exact ⟨_, by simp [Op.unary, Op.intArith], VRel.of_int _ _ _ _⟩
  · have eX := VRel.int_eq hx
    subst eX
    exact ⟨_, by simp [Op.unary, intBits_xor], VRel.of_int _ _ _ _⟩

theorem isPtr_spec {P : Program} {t : TypeId} (h : isPtr P t = true) : P.underlying t = some (.pointer (P.pointee t)) := by
  unfold isPtr at h
  split at h
  · rename_i e he; simp [Program.pointee, he]
  · cases h
theorem nilV_sound {cx : Cx} {φ : Phi} {st : St} {a : Act} {w : World} (R : RelF cx φ st a w) {op : BinOp} {t : TypeId} {x y v : SV} {X Y : Value} (xo yo : Operand)
    (h : nilV cx.P st.regs op t x y = some v) (hx : SVRel st.regs φ (okOf st.regs φ) w x X) (hy : SVRel st.regs φ (okOf st.regs φ) w y Y) :
    ∃ V, (do eqGuard op t xo yo X Y; binOp op t X Y : Sem Value).run cx.P w = .ok V w ∧ SVRel st.regs φ (okOf st.regs φ) w v V := by
  have key : ∀ (r : Nat) (p : Option Addr) (g : Reg), isPtr cx.P t = true → Y = .pointer none → X = .pointer p →
      (∃ V, (do eqGuard .eql t xo yo X Y; binOp .eql t X Y : Sem Value).run cx.P w = .ok V w ∧ V = .bool p.isNone) ∧
      (∃ V, (do eqGuard .neq t xo yo X Y; binOp .neq t X Y : Sem Value).run cx.P w = .ok V w ∧ V = .bool (!p.isNone)) := by
    intro r p g hp hY hX
    subst hY; subst hX
    have := isPtr_spec hp
    refine ⟨⟨_, ?_, rfl⟩, ⟨_, ?_, rfl⟩⟩
    · have h1 := run_equal_pointer_nil (P := cx.P) (w := w) t p this
      simp [eqGuard, binOp, h1]
    · have h1 := run_equal_pointer_nil (P := cx.P) (w := w) t p this
      simp [eqGuard, binOp, h1]
  unfold nilV at h
  split at h
  · rename_i r
    split at h
    · rename_i hp
      split at h
      · rename_i τ o hl
        cases h
        obtain ⟨_, h2, h3⟩ := hx _ hl
        obtain ⟨⟨V, e1, e2⟩, _⟩ := key r _ (.obox τ o) hp hy h3
        refine ⟨V, e1, ?_⟩
        rw [e2]
        have : (Option.map (fun b => (⟨b, 0, none⟩ : Addr)) (φ r).blk).isNone = o.isNone := by
          cases hb : (φ r).blk <;> cases o <;> simp [hb] at h2 ⊢
        rw [this]
        exact VRel.of_bool _ _ _
      · rename_i τ y' hl
        cases h
        obtain ⟨b, h1, h2, h3⟩ := hx _ hl
        obtain ⟨⟨V, e1, e2⟩, _⟩ := key r _ (.box τ y') hp hy h3
        exact ⟨V, e1, by rw [e2]; exact VRel.of_bool _ _ _⟩
      · cases h
    · cases h
  · rename_i r
    split at h
    · rename_i hp
      split at h
      · rename_i τ o hl
        cases h
        obtain ⟨_, h2, h3⟩ := hx _ hl
        obtain ⟨_, ⟨V, e1, e2⟩⟩ := key r _ (.obox τ o) hp hy h3
        refine ⟨V, e1, ?_⟩
        rw [e2]
        have : (Option.map (fun b => (⟨b, 0, none⟩ : Addr)) (φ r).blk).isNone = o.isNone := by
          cases hb : (φ r).blk <;> cases o <;> simp [hb] at h2 ⊢
        rw [this]
        exact VRel.of_bool _ _ _
      · rename_i τ y' hl
        cases h
        obtain ⟨b, h1, h2, h3⟩ := hx _ hl
        obtain ⟨_, ⟨V, e1, e2⟩⟩ := key r _ (.box τ y') hp hy h3
        exact ⟨V, e1, by rw [e2]; exact VRel.of_bool _ _ _⟩
      · cases h
    · cases h
  · cases h

end Go.Lift
