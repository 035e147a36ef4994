/- Lines for the functions of this seat; merged from texts of their own. -/
import Derived.Test.YtefajmghpgiekaaLB
import Derived.Laws.Pointers
set_option linter.unusedVariables false
set_option linter.unusedSimpArgs false
/- One operation (but for the calls of functions), abstract, and that it tells what the machine does. -/
namespace Go.Lift
open Go

def constAV : Value → Option SV
  | .int k n => some (vI k n)
  | .bool b => some (vB b)
  | .string s => some (vS s)
  | .slice none 0 0 => some .nilsl
  | .pointer none => some .nilp
  | _ => none
theorem constAV_sound {rs : Regs} {φ : Phi} {ok : Nat → Prop} {w : World} {V : Value} {v : SV} (h : constAV V = some v) : SVRel rs φ ok w v V := by
  unfold constAV at h
  split at h <;> cases h
  · exact VRel.of_int _ _ _ _
  · exact VRel.of_bool _ _ _
  · exact VRel.of_str _ _ _
  · rfl
  · rfl

def opnd (tm : List AV) : Operand → Option AV
  | .tmp t => tm[t]?
  | .const v => (constAV v).map AV.s
  | .func f => some (.fn f [])
  | .global _ => none
theorem opnd_sound {cx : Cx} {φ : Phi} {st : St} {a : Act} {w : World} (R : RelF cx φ st a w) {x : Operand} {v : AV} (h : opnd st.tmps x = some v) : AVRel st.regs φ (okOf st.regs φ) w v (a.eval x) := by
  cases x with
  | tmp t => exact R.tm t v h
  | const c =>
    simp only [opnd, Option.map_eq_some_iff] at h
    obtain ⟨s, hs, rfl⟩ := h
    exact constAV_sound hs
  | global g => simp [opnd] at h
  | func f => simp only [opnd, Option.some.injEq] at h; subst h; exact ⟨#[], rfl, .nil⟩

def mapParts (arg : Operand → Option SV) : List (Nat × Operand) → Option (List (Nat × SV))
  | [] => some []
  | (i, x) :: rest => match arg x, mapParts arg rest with
    | some v, some vs => some ((i, v) :: vs)
    | _, _ => none
theorem mapParts_sound {arg : Operand → Option SV} {ev : Operand → Value} {S : SV → Value → Prop} (h : ∀ x v, arg x = some v → S v (ev x)) : ∀ (ps : List (Nat × Operand)) (vs : List (Nat × SV)), mapParts arg ps = some vs →
    Parts2 S vs (ps.map fun p => (p.1, ev p.2))
  | [], vs, hm => by simp only [mapParts, Option.some.injEq] at hm; subst hm; exact .nil
  | (i, x) :: rest, vs, hm => by
    simp only [mapParts] at hm
    split at hm
    · rename_i v vs' h1 h2
      cases hm
      exact .cons (h _ _ h1) (mapParts_sound h rest vs' h2)
    · cases hm
def mapArgs (arg : Operand → Option SV) : List Operand → Option (List SV)
  | [] => some []
  | x :: rest => match arg x, mapArgs arg rest with
    | some v, some vs => some (v :: vs)
    | _, _ => none
theorem mapArgs_sound {arg : Operand → Option SV} {ev : Operand → Value} {S : SV → Value → Prop} (h : ∀ x v, arg x = some v → S v (ev x)) : ∀ (ps : List Operand) (vs : List SV), mapArgs arg ps = some vs → All2 S vs (ps.map ev)
  | [], vs, hm => by simp only [mapArgs, Option.some.injEq] at hm; subst hm; exact .nil
  | x :: rest, vs, hm => by
    simp only [mapArgs] at hm
    split at hm
    · rename_i v vs' h1 h2
      cases hm
      exact .cons (h _ _ h1) (mapArgs_sound h rest vs' h2)
    · cases hm

abbrev Out := List Prop × AV × Eff

def isPtr (P : Program) (t : TypeId) : Bool :=
  match P.underlying t with
  | some (.pointer _) => true
  | _ => false
def nilV (P : Program) (rs : Regs) (op : BinOp) (t : TypeId) (x y : SV) : Option SV :=
  match op, x, y with
  | .eql, .addr r [], .nilp => if isPtr P t = true then (match look rs r with
      | some (.obox _ o) => some (vB o.isNone)
      | some (.box _ _) => some (vB false)
      | _ => none) else none
  | .neq, .addr r [], .nilp => if isPtr P t = true then (match look rs r with
      | some (.obox _ o) => some (vB (!o.isNone))
      | some (.box _ _) => some (vB true)
      | _ => none) else none
  | .eql, .val τ a, .val τ' b => if eqAgg P t τ = true then (castTy τ' τ b).map fun b => vB (eqD τ a b) else none
  | .neq, .val τ a, .val τ' b => if eqAgg P t τ = true then (castTy τ' τ b).map fun b => vB (!eqD τ a b) else none
  | _, _, _ => none

def unV (op : UnOp) (x : SV) : Option SV :=
  match op, x with
  | .not, .val .bool b => some (vB (!b))
  | .neg, .val (.int k) n => some (vI k (k.wrap (0 - n)))
  | .xor, .val (.int k) n => some (vI k (bits .xor k (if k.signed then -1 else k.max) n))
  | _, _ => none

def boolT (P : Program) (t : TypeId) (x : SV) : Bool :=
  match x with
  | .val .bool _ => match P.underlying t with
    | some .bool => true
    | _ => false
  | _ => true
theorem boolT_spec {P : Program} {t : TypeId} {x : SV} (h : boolT P t x = true) : ∀ b, x = .val .bool b → P.underlying t = some .bool := by
  intro b hb
  subst hb
  unfold boolT at h
  split at h
  · split at h
    · assumption
    · cases h
  · rename_i hne; exact (hne _ rfl).elim

def o3 (r : Option (List Prop × SV)) : Option Out := r.map fun p => (p.1, .s p.2, [])
def o1 (r : Option SV) : Option Out := r.map fun v => ([], .s v, [])
def oe (r : Option (SV × Eff)) : Option Out := r.map fun p => ([], .s p.1, p.2)
def of3 (r : Option (List Prop × SV × Eff)) : Option Out := r.map fun p => (p.1, .s p.2.1, p.2.2)

def optArg (arg : Operand → Option SV) : Option Operand → Option (Option SV)
  | none => some none
  | some x => (arg x).map some

def core (P : Program) (rs : Regs) (n : Nat) (arg : Operand → Option SV) (argA : Operand → Option AV) (o : Oper) : Option Out :=
  match o.op with
  | .move x => (argA x).map fun v => ([], v, [])
  | .assign x => (argA x).map fun v => ([], v, [])
  | .alloc t => oe (allocV P t n)
  | .box _ x => match arg x with
    | some x => oe (boxV x n)
    | none => none
  | .build t parts => match mapParts arg parts.toList with
    | some vs => oe (buildV P rs t vs)
    | none => none
  | .buildSlice t len parts => match mapParts arg parts.toList with
    | some vs => oe (buildSliceV P rs t len vs n)
    | none => none
  | .load t x => match arg x with
    | some x => o1 (loadV P rs t x)
    | none => none
  | .store t x v => match arg x, arg v with
    | some x, some v => (storeV P rs t x v).map fun e => ([], .s .undef, e)
    | _, _ => none
  | .nilCheck x => match arg x with
    | some (.addr r p) => match look rs r with
      | some (.obox τ o) => match p with
        | [] => some ([o.isSome = true], .s (.addr r []), [.set (some r) r (.box τ (o.getD τ.dflt))])
        | _ => none
      | some _ => some ([], .s (.addr r p), [])
      | none => none
    | some (.ra t x) => some ([], .s (.ra t x), [])
    | _ => none
  | .binOp op t x y _ => match arg x, arg y with
    | some x, some y => match nilV P rs op t x y with
      | some v => some ([], .s v, [])
      | none => if boolT P t x = true then o3 (binV op x y) else none
    | _, _ => none
  | .unOp op _ x => match arg x with
    | some x => o1 (unV op x)
    | none => none
  | .convert src dst x => match arg x with
    | some x => match convV P src dst x with
      | some v => some ([], .s v, [])
      | none => match strOfV P rs src dst x with
        | some v => some ([], .s v, [])
        | none => oe (bytesV P src dst x n)
    | none => none
  | .makeFunc (.func f) first captured => if first.toList.isEmpty = true then (mapArgs arg captured.toList).map fun vs => ([], .fn f vs, []) else none
  | .makeSlice t l c => match arg l, arg c with
    | some l, some c => of3 (makeV P t l c n)
    | _, _ => none
  | .slice t x lo hi mx => match arg x, optArg arg lo, optArg arg hi, optArg arg mx with
    | some x, some lo, some hi, some mx => of3 (sliceV P rs t x lo hi mx n)
    | _, _, _, _ => none
  | .fieldAddr t x k => match arg x with
    | some x => of3 (fieldA P rs t x k)
    | none => none
  | .field t x k => match arg x with
    | some x => o1 (fieldV P t x k)
    | none => none
  | .indexAddr t x i => match arg x, arg i with
    | some x, some i => o3 (indexA P rs t x i)
    | _, _ => none
  | .index t x i => match arg x, arg i with
    | some x, some i => o3 (indexV P t x i)
    | _, _ => none
  | .extract x i => match argA x with
    | some (.tup vs) => (vs[i]?).map fun v => ([], .s v, [])
    | _ => none
  | .panic _ => some ([False], .s .undef, [])
  | .makeInterface t _ => match P.underlying t with
    | some (.interface _) => none
    | some _ => some ([], .s .undef, [])
    | none => none
  | .call { callee := .builtin b, args := args, argTypes := ts } => match b with
    | .len => match args.toList, ts.toList with
      | [x], [t] => match arg x with
        | some x => o1 (lenV P rs t x)
        | none => none
      | _, _ => none
    | .cap => match args.toList, ts.toList with
      | [x], [t] => match arg x with
        | some x => o1 (capV P t x)
        | none => none
      | _, _ => none
    | .append => match args.toList, ts.toList with
      | [s, x], [sT, xT] => match arg s, arg x with
        | some s, some x => of3 (appendV P rs sT xT s x n)
        | _, _ => none
      | _, _ => none
    | .min => match mapArgs arg args.toList with
      | some vs => o1 (minV' false vs)
      | none => none
    | .max => match mapArgs arg args.toList with
      | some vs => o1 (minV' true vs)
      | none => none
    | _ => none
  | _ => none

/-- What an operation that calls no function comes to. -/
def Tells (cx : Cx) (st : St) (a : Act) (w : World) (o : Oper) (av : AV) (e : Eff) : Prop :=
  ∃ r V w' φ', (execOp a.eval o).run cx.P w = .ok r w' ∧ (r = .value V ∨ (r = .skip ∧ V = undef)) ∧ RelF cx φ' { st with regs := e.app st.regs } a w' ∧
    AVRel (e.app st.regs) φ' (okOf (e.app st.regs) φ') w' av V

theorem tells_pure {cx : Cx} {φ : Phi} {st : St} {a : Act} {w : World} (R : RelF cx φ st a w) {o : Oper} {v : SV} {s : Sem Value} (hs : execOp a.eval o = (do pure (.value (← s))))
    (h : ∃ V, s.run cx.P w = .ok V w ∧ SVRel st.regs φ (okOf st.regs φ) w v V) : Tells cx st a w o (.s v) [] := by
  obtain ⟨V, h1, h2⟩ := h
  exact ⟨.value V, V, w, φ, by rw [hs]; simp [h1], .inl rfl, R, h2⟩
theorem tells_eff {cx : Cx} {st : St} {a : Act} {w : World} {o : Oper} {v : SV} {e : Eff} {s : Sem Value} (hs : execOp a.eval o = (do pure (.value (← s))))
    (h : ∃ V w' φ', s.run cx.P w = .ok V w' ∧ RelF cx φ' { st with regs := e.app st.regs } a w' ∧ SVRel (e.app st.regs) φ' (okOf (e.app st.regs) φ') w' v V) : Tells cx st a w o (.s v) e := by
  obtain ⟨V, w', φ', h1, h2, h3⟩ := h
  exact ⟨.value V, V, w', φ', by rw [hs]; simp [h1], .inl rfl, h2, h3⟩

theorem unV_sound {P : Program} {rs : Regs} {φ : Phi} {ok : Nat → Prop} {w : World} {op : UnOp} {x v : SV} {X : Value} (h : unV op x = some v) (hx : SVRel rs φ ok w x X) :
    ∃ V, (Op.unary op X).run P w = .ok V w ∧ SVRel rs φ ok w v V := by
  unfold unV at h
  split at h <;> cases h
  · have eX := VRel.bool_eq hx
    subst eX
    exact ⟨_, by simp [Op.unary], VRel.of_bool _ _ _⟩
  · have eX := VRel.int_eq hx
    subst eX
    exact ⟨_, by simp [Op.unary, Op.intArith], VRel.of_int _ _ _ _⟩
  · have eX := VRel.int_eq hx
    subst eX
    exact ⟨_, by simp [Op.unary, intBits_xor], VRel.of_int _ _ _ _⟩

theorem isPtr_spec {P : Program} {t : TypeId} (h : isPtr P t = true) : P.underlying t = some (.pointer (P.pointee t)) := by
  unfold isPtr at h
  split at h
  · rename_i e he; simp [Program.pointee, he]
  · cases h
theorem nilV_sound {cx : Cx} {φ : Phi} {st : St} {a : Act} {w : World} (R : RelF cx φ st a w) {op : BinOp} {t : TypeId} {x y v : SV} {X Y : Value} (xo yo : Operand)
    (h : nilV cx.P st.regs op t x y = some v) (hx : SVRel st.regs φ (okOf st.regs φ) w x X) (hy : SVRel st.regs φ (okOf st.regs φ) w y Y) :
    ∃ V, (do eqGuard op t xo yo X Y; binOp op t X Y : Sem Value).run cx.P w = .ok V w ∧ SVRel st.regs φ (okOf st.regs φ) w v V := by
  have key : ∀ (r : Nat) (p : Option Addr) (g : Reg), isPtr cx.P t = true → Y = .pointer none → X = .pointer p →
      (∃ V, (do eqGuard .eql t xo yo X Y; binOp .eql t X Y : Sem Value).run cx.P w = .ok V w ∧ V = .bool p.isNone) ∧
      (∃ V, (do eqGuard .neq t xo yo X Y; binOp .neq t X Y : Sem Value).run cx.P w = .ok V w ∧ V = .bool (!p.isNone)) := by
    intro r p g hp hY hX
    subst hY; subst hX
    have := isPtr_spec hp
    refine ⟨⟨_, ?_, rfl⟩, ⟨_, ?_, rfl⟩⟩
    · have h1 := run_equal_pointer_nil (P := cx.P) (w := w) t p this
      simp [eqGuard, binOp, h1]
    · have h1 := run_equal_pointer_nil (P := cx.P) (w := w) t p this
      simp [eqGuard, binOp, h1]
  unfold nilV at h
  split at h
  · rename_i r
    split at h
    · rename_i hp
      split at h
      · rename_i τ o hl
        cases h
        obtain ⟨_, h2, h3⟩ := hx _ hl
        obtain ⟨⟨V, e1, e2⟩, _⟩ := key r _ (.obox τ o) hp hy h3
        refine ⟨V, e1, ?_⟩
        rw [e2]
        have : (Option.map (fun b => (⟨b, 0, none⟩ : Addr)) (φ r).blk).isNone = o.isNone := by
          cases hb : (φ r).blk <;> cases o <;> simp [hb] at h2 ⊢
        rw [this]
        exact VRel.of_bool _ _ _
      · rename_i τ y' hl
        cases h
        obtain ⟨b, h1, h2, h3⟩ := hx _ hl
        obtain ⟨⟨V, e1, e2⟩, _⟩ := key r _ (.box τ y') hp hy h3
        exact ⟨V, e1, by rw [e2]; exact VRel.of_bool _ _ _⟩
      · cases h
    · cases h
  · rename_i r
    split at h
    · rename_i hp
      split at h
      · rename_i τ o hl
        cases h
        obtain ⟨_, h2, h3⟩ := hx _ hl
        obtain ⟨_, ⟨V, e1, e2⟩⟩ := key r _ (.obox τ o) hp hy h3
        refine ⟨V, e1, ?_⟩
        rw [e2]
        have : (Option.map (fun b => (⟨b, 0, none⟩ : Addr)) (φ r).blk).isNone = o.isNone := by
          cases hb : (φ r).blk <;> cases o <;> simp [hb] at h2 ⊢
        rw [this]
        exact VRel.of_bool _ _ _
      · rename_i τ y' hl
        cases h
        obtain ⟨b, h1, h2, h3⟩ := hx _ hl
        obtain ⟨_, ⟨V, e1, e2⟩⟩ := key r _ (.box τ y') hp hy h3
        exact ⟨V, e1, by rw [e2]; exact VRel.of_bool _ _ _⟩
      · cases h
    · cases h
  · rename_i τ a0 τ' b0
    split at h
    · rename_i he
      rw [Option.map_eq_some_iff] at h
      obtain ⟨b1, hb, e⟩ := h
      cases e
      obtain ⟨e1, e2⟩ := castTy_some hb
      subst e1; subst e2
      exact ⟨_, (eqAgg_run xo yo he hx hy).1, VRel.of_bool _ _ _⟩
    · cases h
  · rename_i τ a0 τ' b0
    split at h
    · rename_i he
      rw [Option.map_eq_some_iff] at h
      obtain ⟨b1, hb, e⟩ := h
      cases e
      obtain ⟨e1, e2⟩ := castTy_some hb
      subst e1; subst e2
      exact ⟨_, (eqAgg_run xo yo he hx hy).2, VRel.of_bool _ _ _⟩
    · cases h
  · cases h

end Go.Lift
/- One operation: soundness. -/
namespace Go.Lift
open Go

set_option maxHeartbeats 4000000 in
theorem core_sound {cx : Cx} {φ : Phi} {st : St} {a : Act} {w : World} (R : RelF cx φ st a w) {n : Nat} (hf : FreshN cx st n) {arg : Operand → Option SV} {argA : Operand → Option AV} {o : Oper} {vc : List Prop} {av : AV} {e : Eff}
    (h : core cx.P st.regs n arg argA o = some (vc, av, e)) (hvc : ∀ p ∈ vc, p)
    (harg : ∀ x v, arg x = some v → SVRel st.regs φ (okOf st.regs φ) w v (a.eval x)) (hargA : ∀ x v, argA x = some v → AVRel st.regs φ (okOf st.regs φ) w v (a.eval x)) : Tells cx st a w o av e := by
  unfold core at h
  split at h
  · rename_i x ho
    rw [Option.map_eq_some_iff] at h
    obtain ⟨v, hv, e1⟩ := h
    cases e1
    exact ⟨.value (a.eval x), a.eval x, w, φ, by simp [execOp, ho], .inl rfl, R, hargA _ _ hv⟩
  · rename_i x ho
    rw [Option.map_eq_some_iff] at h
    obtain ⟨v, hv, e1⟩ := h
    cases e1
    exact ⟨.value (a.eval x), a.eval x, w, φ, by simp [execOp, ho], .inl rfl, R, hargA _ _ hv⟩
  · rename_i t ho
    simp only [oe, Option.map_eq_some_iff] at h
    obtain ⟨⟨v, e0⟩, hv, e1⟩ := h
    cases e1
    exact tells_eff (s := Instr.alloc t true (.tuple #[])) (by simp [execOp, ho]) (allocV_sound R hf hv)
  · rename_i t x ho
    split at h
    · rename_i x' hx
      simp only [oe, Option.map_eq_some_iff] at h
      obtain ⟨⟨v, e0⟩, hv, e1⟩ := h
      cases e1
      exact tells_eff (s := Instr.box t (a.eval x)) (by simp [execOp, ho]) (boxV_sound R hf hv (harg _ _ hx))
    · cases h
  · rename_i t parts ho
    split at h
    · rename_i vs hvs
      simp only [oe, Option.map_eq_some_iff] at h
      obtain ⟨⟨v, e0⟩, hv, e1⟩ := h
      cases e1
      have hp := mapParts_sound harg _ _ hvs
      obtain ⟨V, h1, h2, h3⟩ := buildV_sound R (Parts := parts.map fun p => (p.1, a.eval p.2)) hv (by simpa using hp)
      exact tells_eff (s := Instr.build t (parts.map fun p => (p.1, a.eval p.2))) (by simp [execOp, ho]) ⟨V, w, φ, h1, h2, h3⟩
    · cases h
  · rename_i t len parts ho
    split at h
    · rename_i vs hvs
      simp only [oe, Option.map_eq_some_iff] at h
      obtain ⟨⟨v, e0⟩, hv, e1⟩ := h
      cases e1
      have hp := mapParts_sound harg _ _ hvs
      exact tells_eff (s := Instr.buildSlice t len (parts.map fun p => (p.1, a.eval p.2))) (by simp [execOp, ho])
        (buildSliceV_sound R hf (Parts := parts.map fun p => (p.1, a.eval p.2)) hv (by simpa using hp))
    · cases h
  · rename_i t x ho
    split at h
    · rename_i x' hx
      simp only [o1, Option.map_eq_some_iff] at h
      obtain ⟨v, hv, e1⟩ := h
      cases e1
      exact tells_pure R (s := Instr.loadAt t (a.eval x)) (by simp [execOp, ho]) (loadV_sound R hv (harg _ _ hx))
    · cases h
  · rename_i t x y ho
    split at h
    · rename_i x' y' hx hy
      rw [Option.map_eq_some_iff] at h
      obtain ⟨e0, hv, e1⟩ := h
      cases e1
      obtain ⟨w', h1, h2⟩ := storeV_sound R hv (harg _ _ hx) (harg _ _ hy)
      exact ⟨.skip, undef, w', φ, by simp [execOp, ho, h1], .inr ⟨rfl, rfl⟩, h2, trivial⟩
    · cases h
  · rename_i x ho
    split at h
    · rename_i r p hx
      have hX := harg _ _ hx
      split at h
      · rename_i τ o' hl
        split at h
        · cases h
          have hs : o'.isSome = true := hvc _ (by simp)
          obtain ⟨_, g2, g3⟩ := hX _ hl
          rw [hs] at g2
          obtain ⟨b, hb⟩ := Option.isSome_iff_exists.1 g2
          rw [hb] at g3
          have g3' : a.eval x = .pointer (some ⟨b, 0, none⟩) := g3
          refine ⟨.value (a.eval x), a.eval x, w, φ, by simp [execOp, ho, g3'], .inl rfl, R.open hl hs, ?_⟩
          intro g hg
          have hg' : look (upd (without st.regs (some r)) r (some (.box τ (o'.getD τ.dflt)))) r = some g := hg
          rw [look_upd, if_pos rfl] at hg'
          cases hg'
          exact ⟨b, hb, by simp [pok], by rw [g3']; simp [poff]⟩
        · cases h
      · rename_i g hno hl
        cases h
        have hg := hX _ hl
        cases g with
        | row t xs =>
          obtain ⟨i, p', b, _, _, _, _, _, g6⟩ := hg
          exact ⟨.value (a.eval x), a.eval x, w, φ, by simp [execOp, ho, g6], .inl rfl, R, hX⟩
        | box t y =>
          obtain ⟨b, _, _, g3⟩ := hg
          exact ⟨.value (a.eval x), a.eval x, w, φ, by simp [execOp, ho, g3], .inl rfl, R, hX⟩
        | obox t y => exact (hno _ _ rfl).elim
      · cases h
    · rename_i t y hx
      cases h
      have hX := harg _ _ hx
      obtain ⟨b, o', cs, ty, fz, g1, g2⟩ := hX
      exact ⟨.value (a.eval x), a.eval x, w, φ, by simp [execOp, ho, g1], .inl rfl, R, harg _ _ hx⟩
    · cases h
  · rename_i op t x y t2 ho
    split at h
    · rename_i x' y' hx hy
      split at h
      · rename_i v hv
        cases h
        exact tells_pure R (s := do eqGuard op t x y (a.eval x) (a.eval y); binOp op t (a.eval x) (a.eval y)) (by simp [execOp, ho]) (nilV_sound R x y hv (harg _ _ hx) (harg _ _ hy))
      · split at h
        · rename_i hb
          simp only [o3, Option.map_eq_some_iff] at h
          obtain ⟨⟨vc', v⟩, hv, e1⟩ := h
          cases e1
          exact tells_pure R (s := do eqGuard op t x y (a.eval x) (a.eval y); binOp op t (a.eval x) (a.eval y)) (by simp [execOp, ho]) (binV_sound x y hv hvc (boolT_spec hb) (harg _ _ hx) (harg _ _ hy))
        · cases h
    · cases h
  · rename_i op t x ho
    split at h
    · rename_i x' hx
      simp only [o1, Option.map_eq_some_iff] at h
      obtain ⟨v, hv, e1⟩ := h
      cases e1
      exact tells_pure R (s := Op.unary op (a.eval x)) (by simp [execOp, ho]) (unV_sound hv (harg _ _ hx))
    · cases h
  · rename_i src dst x ho
    split at h
    · rename_i x' hx
      split at h
      · rename_i v hv
        cases h
        exact tells_pure R (s := convert src dst (a.eval x)) (by simp [execOp, ho]) (convV_sound hv (harg _ _ hx))
      · split at h
        · rename_i v hv
          cases h
          exact tells_pure R (s := convert src dst (a.eval x)) (by simp [execOp, ho]) (strOfV_sound R hv (harg _ _ hx))
        · simp only [oe, Option.map_eq_some_iff] at h
          obtain ⟨⟨v, e0⟩, hv, e1⟩ := h
          cases e1
          exact tells_eff (s := convert src dst (a.eval x)) (by simp [execOp, ho]) (bytesV_sound R hf hv (harg _ _ hx))
    · cases h
  · rename_i f first captured ho
    split at h
    · rename_i hemp
      rw [Option.map_eq_some_iff] at h
      obtain ⟨vs, hvs, e1⟩ := h
      cases e1
      have hfi : first = #[] := by
        have : first.toList = [] := by simpa using hemp
        cases first; simp_all
      have := mapArgs_sound harg _ _ hvs
      refine ⟨.value (.func (.func f) #[] (captured.map a.eval)), _, w, φ, by simp [execOp, ho, Instr.makeFunc, hfi], .inl rfl, R, ⟨_, rfl, by simpa using (show All2 (SVRel (Eff.app st.regs []) φ (okOf (Eff.app st.regs []) φ) w) vs (captured.toList.map a.eval) from this)⟩⟩
    · cases h
  · rename_i t l c ho
    split at h
    · rename_i l' c' hl hc
      simp only [of3, Option.map_eq_some_iff] at h
      obtain ⟨⟨vc', v, e0⟩, hv, e1⟩ := h
      cases e1
      exact tells_eff (s := Instr.makeSlice t (a.eval l) (a.eval c)) (by simp [execOp, ho]) (makeV_sound R hf hv hvc (harg _ _ hl) (harg _ _ hc))
    · cases h
  · rename_i t x lo hi mx ho
    split at h
    · rename_i x' lo' hi' mx' hx hlo hhi hmx
      simp only [of3, Option.map_eq_some_iff] at h
      obtain ⟨⟨vc', v, e0⟩, hv, e1⟩ := h
      cases e1
      have hopt : ∀ (y : Option Operand) (y' : Option SV), optArg arg y = some y' → ∀ q, optI y' = some q → OptV q (y.map a.eval) := by
        intro y y' hy q hq
        refine optI_sound (rs := st.regs) (φ := φ) (ok := okOf st.regs φ) (w := w) hq ?_
        cases y with
        | none => simp only [optArg, Option.some.injEq] at hy; subst hy; trivial
        | some y =>
          simp only [optArg, Option.map_eq_some_iff] at hy
          obtain ⟨s, hs, rfl⟩ := hy
          exact harg _ _ hs
      obtain ⟨V, φ', h1, h2, h3⟩ := sliceV_sound (X := a.eval x) (Lo := lo.map a.eval) (Hi := hi.map a.eval) (Mx := mx.map a.eval) R hf hv hvc (harg _ _ hx) (hopt _ _ hlo) (hopt _ _ hhi) (hopt _ _ hmx)
      exact tells_eff (s := Instr.sliceAt t (a.eval x) (lo.map a.eval) (hi.map a.eval) (mx.map a.eval)) (by simp [execOp, ho]) ⟨V, w, φ', h1, h2, h3⟩
    · cases h
  · rename_i t x k ho
    split at h
    · rename_i x' hx
      simp only [of3, Option.map_eq_some_iff] at h
      obtain ⟨⟨vc', v, e0⟩, hv, e1⟩ := h
      cases e1
      obtain ⟨V, h1, h2, h3⟩ := fieldA_sound R hv hvc (harg _ _ hx)
      exact tells_eff (s := Instr.fieldAt t (a.eval x) k) (by simp [execOp, ho]) ⟨V, w, φ, h1, h2, h3⟩
    · cases h
  · rename_i t x k ho
    split at h
    · rename_i x' hx
      simp only [o1, Option.map_eq_some_iff] at h
      obtain ⟨v, hv, e1⟩ := h
      cases e1
      exact tells_pure R (s := Instr.field t (a.eval x) k) (by simp [execOp, ho]) (fieldV_sound hv (harg _ _ hx))
    · cases h
  · rename_i t x i ho
    split at h
    · rename_i x' i' hx hi
      simp only [o3, Option.map_eq_some_iff] at h
      obtain ⟨⟨vc', v⟩, hv, e1⟩ := h
      cases e1
      exact tells_pure R (s := Instr.indexAt t (a.eval x) (a.eval i)) (by simp [execOp, ho]) (indexA_sound R hv hvc (harg _ _ hx) (harg _ _ hi))
    · cases h
  · rename_i t x i ho
    split at h
    · rename_i x' i' hx hi
      simp only [o3, Option.map_eq_some_iff] at h
      obtain ⟨⟨vc', v⟩, hv, e1⟩ := h
      cases e1
      exact tells_pure R (s := Instr.index t (a.eval x) (a.eval i)) (by simp [execOp, ho]) (indexV_sound hv hvc (harg _ _ hx) (harg _ _ hi))
    · cases h
  · rename_i x i ho
    split at h
    · rename_i vs hx
      rw [Option.map_eq_some_iff] at h
      obtain ⟨v, hv, e1⟩ := h
      cases e1
      obtain ⟨Vs, hV, hall⟩ := hargA _ _ hx
      obtain ⟨V, g1, g2⟩ := hall.get i v hv
      have g1' : Vs[i]? = some V := by simpa using g1
      exact ⟨.value V, V, w, φ, by simp [execOp, ho, hV, Instr.extract, g1'], .inl rfl, R, g2⟩
    · cases h
  · cases h
    exact (hvc False (by simp)).elim
  · rename_i t x ho
    split at h
    · cases h
    · rename_i D hD hu
      cases h
      refine ⟨.value (.iface t (a.eval x)), .iface t (a.eval x), w, φ, ?_, .inl rfl, R, trivial⟩
      simp only [execOp, ho]
      have : (Instr.makeInterface t (a.eval x)).run cx.P w = .ok (.iface t (a.eval x)) w := by
        unfold Instr.makeInterface
        simp only [Sem.run_bind, run_underlying hu, Result.andThen_ok]
        cases D <;> first | rfl | exact (hD _ hu).elim
      simp [this]
    · cases h
  · rename_i b args ts ho
    split at h
    · split at h
      · rename_i x t hx ht
        split at h
        · rename_i x' hx'
          simp only [o1, Option.map_eq_some_iff] at h
          obtain ⟨v, hv, e1⟩ := h
          cases e1
          have e2 : args = #[x] := by cases args; simp_all
          have e3 : ts = #[t] := by cases ts; simp_all
          subst e2; subst e3
          refine tells_pure R (s := Builtin.len_ #[t] o.type #[a.eval x]) ?_ (lenV_sound R hv (harg _ _ hx'))
          simp [execOp, ho, resolve, invoke, builtin]
        · cases h
      · cases h
    · split at h
      · rename_i x t hx ht
        split at h
        · rename_i x' hx'
          simp only [o1, Option.map_eq_some_iff] at h
          obtain ⟨v, hv, e1⟩ := h
          cases e1
          have e2 : args = #[x] := by cases args; simp_all
          have e3 : ts = #[t] := by cases ts; simp_all
          subst e2; subst e3
          refine tells_pure R (s := Builtin.cap_ #[t] o.type #[a.eval x]) ?_ (capV_sound hv (harg _ _ hx'))
          simp [execOp, ho, resolve, invoke, builtin]
        · cases h
      · cases h
    · split at h
      · rename_i s x sT xT hx ht
        split at h
        · rename_i s' x' hs' hx'
          simp only [of3, Option.map_eq_some_iff] at h
          obtain ⟨⟨vc', v, e0⟩, hv, e1⟩ := h
          cases e1
          have e2 : args = #[s, x] := by cases args; simp_all
          have e3 : ts = #[sT, xT] := by cases ts; simp_all
          subst e2; subst e3
          refine tells_eff (s := Builtin.append_ #[sT, xT] o.type #[a.eval s, a.eval x]) ?_ (appendV_sound R hf hv hvc (harg _ _ hs') (harg _ _ hx'))
          simp [execOp, ho, resolve, invoke, builtin]
        · cases h
      · cases h
    · split at h
      · rename_i vs hvs
        simp only [o1, Option.map_eq_some_iff] at h
        obtain ⟨v, hv, e1⟩ := h
        cases e1
        have := mapArgs_sound harg _ _ hvs
        refine tells_pure R (s := Builtin.min_ ts o.type (args.map a.eval)) ?_ (by have h9 := minV_sound (P := cx.P) (ts := ts) (t := o.type) (Xs := args.map a.eval) false hv (by simpa using this); simpa using h9)
        simp [execOp, ho, resolve, invoke, builtin]
      · cases h
    · split at h
      · rename_i vs hvs
        simp only [o1, Option.map_eq_some_iff] at h
        obtain ⟨v, hv, e1⟩ := h
        cases e1
        have := mapArgs_sound harg _ _ hvs
        refine tells_pure R (s := Builtin.max_ ts o.type (args.map a.eval)) ?_ (by have h9 := minV_sound (P := cx.P) (ts := ts) (t := o.type) (Xs := args.map a.eval) true hv (by simpa using this); simpa using h9)
        simp [execOp, ho, resolve, invoke, builtin]
      · cases h
    · cases h
  · cases h

end Go.Lift
/- Functions told by a summary: what a call takes and gives. -/
namespace Go.Lift
open Go

inductive PK where
  | v (t : Ty)
  | box (t : Ty)
  | row (t : Ty)
  | nl
inductive RK where
  | v (t : Ty)
  | vn (t : Ty)
  | row (t : Ty)
  | box (t : Ty)
  | obox (t : Ty)
@[reducible] def PK.den : PK → Type
  | .v t => t.den
  | .box t => t.den
  | .row t => List t.den
  | .nl => Unit
@[reducible] def PK.out : PK → Type
  | .v _ => Unit
  | .box t => t.den
  | .row t => List t.den
  | .nl => Unit
@[reducible] def RK.den : RK → Type
  | .v t => t.den
  | .row t => List t.den
  | .box t => t.den
  | .obox t => Option t.den
  | .vn t => List t.den
@[reducible] def dens : List PK → Type
  | [] => Unit
  | p :: ps => p.den × dens ps
@[reducible] def outs : List PK → Type
  | [] => Unit
  | p :: ps => p.out × outs ps
@[reducible] def rdens : List RK → Type
  | [] => Unit
  | p :: ps => p.den × rdens ps

structure Summ where
  par : List PK
  res : List RK
  esc : Bool
  pre : dens par → Prop
  fn : dens par → rdens res × outs par

/-- An argument and what it tells; l: where, if it may be written. -/
def PRel (ok okO : Nat → Prop) (w : World) : (p : PK) → p.den → Value → Loc → Prop
  | .v t, x, v, _ => VRel ok w t x v
  | .box t, x, v, l => Reg.at okO w l (.box t x) ∧ ∃ b, l.blk = some b ∧ v = .pointer (some ⟨b, 0, none⟩)
  | .row t, xs, v, l => Reg.at okO w l (.row t xs) ∧ v = .slice l.addr xs.length l.cap
  | .nl, _, v, _ => v = .slice none 0 0
def PsRel (ok okO : Nat → Prop) (w : World) : (ps : List PK) → dens ps → List Value → List Loc → Prop
  | [], _, vs, ls => vs = [] ∧ ls = []
  | p :: ps, x, vs, ls => ∃ v vs' l ls', vs = v :: vs' ∧ ls = l :: ls' ∧ PRel ok okO w p x.1 v l ∧ PsRel ok okO w ps x.2 vs' ls'
def PK.io : PK → Bool
  | .v _ => false
  | .nl => false
  | _ => true
/-- The places that may be written. -/
def ioLocs : List PK → List Loc → List Loc
  | p :: ps, l :: ls => if p.io then l :: ioLocs ps ls else ioLocs ps ls
  | _, _ => []
/-- What they hold afterwards. -/
def OutRel (ok : Nat → Prop) (w : World) : (ps : List PK) → dens ps → outs ps → List Loc → Prop
  | [], _, _, _ => True
  | .v _ :: ps, x, y, ls => OutRel ok w ps x.2 y.2 ls.tail
  | .nl :: ps, x, y, ls => OutRel ok w ps x.2 y.2 ls.tail
  | .box t :: ps, x, y, ls => (∃ l, ls.head? = some l ∧ Reg.at ok w l (.box t y.1)) ∧ OutRel ok w ps x.2 y.2 ls.tail
  | .row t :: ps, x, y, ls => (∃ l, ls.head? = some l ∧ Reg.at ok w l (.row t y.1) ∧ List.length y.1 = List.length x.1) ∧ OutRel ok w ps x.2 y.2 ls.tail

def RRel (ok : Nat → Prop) (w : World) : (r : RK) → r.den → Value → Loc → Prop
  | .v t, x, v, _ => VRel ok w t x v
  | .row t, xs, v, l => Reg.at ok w l (.row t xs) ∧ v = .slice l.addr xs.length l.cap
  | .box t, x, v, l => Reg.at ok w l (.box t x) ∧ v = .pointer (l.blk.map fun b => ⟨b, 0, none⟩)
  | .obox t, o, v, l => Reg.at ok w l (.obox t o) ∧ v = .pointer (l.blk.map fun b => ⟨b, 0, none⟩)
  | .vn t, xs, v, _ => VRel ok w (.ro t) xs v ∧ ((xs : List t.den) = [] → v = .slice none 0 0)
def RsRel (ok : Nat → Prop) (w : World) : (rs : List RK) → rdens rs → List Value → List Loc → Prop
  | [], _, vs, ls => vs = [] ∧ ls = []
  | r :: rs, x, vs, ls => ∃ v vs' l ls', vs = v :: vs' ∧ ls = l :: ls' ∧ RRel ok w r x.1 v l ∧ RsRel ok w rs x.2 vs' ls'
def RK.fresh : RK → Bool
  | .v _ => false
  | .vn _ => false
  | _ => true
def freshLocs : List RK → List Loc → List Loc
  | r :: rs, l :: ls => if r.fresh then l :: freshLocs rs ls else freshLocs rs ls
  | _, _ => []
def blks (ls : List Loc) : List Nat := ls.filterMap Loc.blk

/-- One value, or a tuple of several. -/
def retVal (vs : List Value) : Value :=
  match vs with
  | [v] => v
  | vs => .tuple vs.toArray

def SumOK (P : Program) (f : FuncId) (S : Summ) : Prop :=
  ∀ (x : dens S.par) (args : List Value) (ls : List Loc) (w : World) (ok okO : Nat → Prop), S.pre x → PsRel ok okO w S.par x args ls →
    (blks (ioLocs S.par ls)).Nodup → (∀ b ∈ blks (ioLocs S.par ls), ¬ ok b ∧ ¬ okO b) →
    Calls P f args.toArray w fun e w' => ∃ (vs : List Value) (rl : List Loc), e = .returned (retVal vs) ∧
      Kept (fun b => b ∈ blks (ioLocs S.par ls)) w.heap.size w w' ∧
      RsRel (fun b => (w.heap.size ≤ b ∧ b ∉ blks (freshLocs S.res rl)) ∨ (S.esc = true ∧ (ok b ∨ okO b) ∧ b < w.heap.size)) w' S.res (S.fn x).1 vs rl ∧
      (blks (freshLocs S.res rl)).Nodup ∧ (∀ b ∈ blks (freshLocs S.res rl), w.heap.size ≤ b) ∧
      OutRel (fun b => (w.heap.size ≤ b ∧ b ∉ blks (freshLocs S.res rl)) ∨ (S.esc = true ∧ ok b ∧ b < w.heap.size) ∨ (okO b ∧ b < w.heap.size)) w' S.par x (S.fn x).2 ls

/-! ### many regions at once -/
structure Chg where
  id : Nat
  reg : Reg
  loc : Loc
def Chg.eff (old : Bool) (c : Chg) : EffI := .set (if old then some c.id else none) c.id c.reg
def setLocsF (φ : Phi) : List Chg → Nat → Loc
  | [] => φ
  | c :: cs => fun r => if r = c.id then c.loc else setLocsF φ cs r
def setLocs (φ : Phi) (L : List Chg) : Phi := ⟨setLocsF φ L, φ.base⟩
def applyAll (rs : Regs) : List (Bool × Chg) → Regs
  | [] => rs
  | (o, c) :: cs => applyAll ((Chg.eff o c).app rs) cs
theorem look_eff (rs : Regs) (o : Bool) (c : Chg) (s : Nat) : look ((Chg.eff o c).app rs) s = if c.id = s then some c.reg else look rs s := by
  cases o
  · simp [Chg.eff, EffI.app, look_upd, without]
  · simp only [Chg.eff, EffI.app, look_upd, if_true, look_without]
    split
    · rfl
    · rename_i h; rw [if_neg (by simpa using h)]
theorem look_applyAll_not : ∀ (L : List (Bool × Chg)) (rs : Regs) (s : Nat), (∀ oc ∈ L, oc.2.id ≠ s) → look (applyAll rs L) s = look rs s
  | [], _, _, _ => rfl
  | (o, c) :: L, rs, s, h => by
    simp only [applyAll]
    rw [look_applyAll_not L _ s (fun oc hoc => h oc (List.mem_cons_of_mem _ hoc)), look_eff, if_neg (h (o, c) (List.mem_cons_self ..))]
theorem look_applyAll_mem : ∀ (L : List (Bool × Chg)) (rs : Regs) (o : Bool) (c : Chg), (L.map (·.2.id)).Nodup → (o, c) ∈ L → look (applyAll rs L) c.id = some c.reg
  | [], _, _, _, _, h => by cases h
  | (o', c') :: L, rs, o, c, hn, h => by
    simp only [List.map_cons, List.nodup_cons] at hn
    simp only [applyAll]
    rcases List.mem_cons.1 h with h | h
    · cases h
      rw [look_applyAll_not L _ _ (fun oc hoc e => hn.1 (by rw [← e]; exact List.mem_map_of_mem hoc)), look_eff, if_pos rfl]
    · exact look_applyAll_mem L _ o c hn.2 h
theorem look_applyAll_some {L : List (Bool × Chg)} {rs : Regs} {s : Nat} {g : Reg} (hn : (L.map (·.2.id)).Nodup) (h : look (applyAll rs L) s = some g) :
    (∃ o c, (o, c) ∈ L ∧ c.id = s ∧ c.reg = g) ∨ ((∀ oc ∈ L, oc.2.id ≠ s) ∧ look rs s = some g) := by
  by_cases hm : ∃ oc ∈ L, oc.2.id = s
  · obtain ⟨⟨o, c⟩, h1, h2⟩ := hm
    have := look_applyAll_mem L rs o c hn h1
    have h2' : c.id = s := h2
    rw [h2', h] at this
    cases this
    exact .inl ⟨o, c, h1, h2', rfl⟩
  · have hm' : ∀ oc ∈ L, oc.2.id ≠ s := fun oc hoc e => hm ⟨oc, hoc, e⟩
    rw [look_applyAll_not L rs s hm'] at h
    exact .inr ⟨hm', h⟩
theorem setLocsF_not : ∀ (L : List Chg) (φ : Phi) (s : Nat), (∀ c ∈ L, c.id ≠ s) → setLocsF φ L s = φ s
  | [], _, _, _ => rfl
  | c :: L, φ, s, h => by
    simp only [setLocsF]
    rw [if_neg (fun e => h c (List.mem_cons_self ..) e.symm)]
    exact setLocsF_not L φ s fun c hc => h c (List.mem_cons_of_mem _ hc)
theorem setLocs_not (L : List Chg) (φ : Phi) (s : Nat) (h : ∀ c ∈ L, c.id ≠ s) : setLocs φ L s = φ s := setLocsF_not L φ s h
theorem setLocsF_mem : ∀ (L : List Chg) (φ : Phi) (c : Chg), (L.map (·.id)).Nodup → c ∈ L → setLocsF φ L c.id = c.loc
  | [], _, _, _, h => by cases h
  | c' :: L, φ, c, hn, h => by
    simp only [List.map_cons, List.nodup_cons] at hn
    simp only [setLocsF]
    rcases List.mem_cons.1 h with h | h
    · subst h; rw [if_pos rfl]
    · rw [if_neg (fun e => hn.1 (by rw [← e]; exact List.mem_map_of_mem h))]
      exact setLocsF_mem L φ c hn.2 h
theorem setLocs_mem (L : List Chg) (φ : Phi) (c : Chg) (h : (L.map (·.id)).Nodup) (hc : c ∈ L) : setLocs φ L c.id = c.loc := setLocsF_mem L φ c h hc

theorem RelF.many {cx : Cx} {φ : Phi} {st : St} {a : Act} {w w' : World} (R : RelF cx φ st a w) (L : List (Bool × Chg))
    (hn : (L.map (·.2.id)).Nodup)
    (hold : ∀ c, (true, c) ∈ L → φ c.id = c.loc ∧ ∃ g, look st.regs c.id = some g ∧ SameKind g c.reg)
    (hnew : ∀ c, (false, c) ∈ L → FreshN cx st c.id ∧ ∀ b, c.loc.blk = some b → w.heap.size ≤ b)
    (hsep : ∀ c c' b, (false, c) ∈ L → (false, c') ∈ L → c.loc.blk = some b → c'.loc.blk = some b → c.id = c'.id)
    (hother : ∀ b, b < w.heap.size → (∀ c, (true, c) ∈ L → c.loc.blk ≠ some b) → w'.heap[b]? = w.heap[b]?)
    (hat : ∀ o c, (o, c) ∈ L → c.reg.at (okOf (applyAll st.regs L) (setLocs φ (L.map (·.2)))) w' c.loc)
    (hos : w'.os = w.os) (htape : w'.tape = w.tape) (hout : w'.output = w.output) (hsize : w.heap.size ≤ w'.heap.size) :
    RelF cx (setLocs φ (L.map (·.2))) { st with regs := applyAll st.regs L } a w' := by
  have hn' : ((L.map (·.2)).map (·.id)).Nodup := by rw [List.map_map]; exact hn
  have hφm : ∀ o c, (o, c) ∈ L → setLocs φ (L.map (·.2)) c.id = c.loc := fun o c h => setLocs_mem _ φ c hn' (List.mem_map.2 ⟨(o, c), h, rfl⟩)
  have hφn : ∀ s, (∀ oc ∈ L, oc.2.id ≠ s) → setLocs φ (L.map (·.2)) s = φ s := fun s h => setLocs_not _ φ s (fun c hc => by
    obtain ⟨oc, h1, h2⟩ := List.mem_map.1 hc
    subst h2; exact h oc h1)
  -- where a live region's block is
  have hblk : ∀ s g b, look (applyAll st.regs L) s = some g → (setLocs φ (L.map (·.2)) s).blk = some b → w.heap.size ≤ b ∨ ∃ g0, look st.regs s = some g0 ∧ (φ s).blk = some b := by
    intro s g b h1 h2
    rcases look_applyAll_some hn h1 with ⟨o, c, hm, e1, e2⟩ | ⟨hm, hl⟩
    · subst e1
      rw [hφm o c hm] at h2
      cases o with
      | false => exact .inl ((hnew c hm).2 b h2)
      | true =>
        obtain ⟨e3, g0, e4, _⟩ := hold c hm
        exact .inr ⟨g0, e4, by rw [e3]; exact h2⟩
    · rw [hφn s hm] at h2
      exact .inr ⟨g, hl, h2⟩
  have hm : ∀ b o, okOf st.regs φ b → w.heap[b]? = some o → okOf (applyAll st.regs L) (setLocs φ (L.map (·.2))) b ∧ w'.heap[b]? = some o := by
    intro b o hok hh
    have hlt : b < w.heap.size := by
      rcases Nat.lt_or_ge b w.heap.size with h1 | h1
      · exact h1
      · simp [Array.getElem?_eq_none h1] at hh
    refine ⟨⟨fun s g hs hb => ?_, hok.2⟩, (hother b hlt fun c hc hb => ?_).trans hh⟩
    · rcases hblk s g b hs hb with h | ⟨g0, h1, h2⟩
      · omega
      · exact hok.1 s g0 h1 h2
    · obtain ⟨e3, g0, e4, _⟩ := hold c hc
      exact hok.1 c.id g0 e4 (by rw [e3]; exact hb)
  refine R.change (w' := w') hm ?_ ?_ ?_ ?_ ?_ ?_ rfl
  · intro r g' hg hmen
    rcases look_applyAll_some hn hg with ⟨o, c, h1, e1, e2⟩ | ⟨h1, hl⟩
    · subst e1; subst e2
      cases o with
      | false =>
        obtain ⟨av, hav, hme⟩ := hmen
        exact ((hnew c h1).1.1.2 av hav hme).elim
      | true =>
        obtain ⟨e3, g0, e4, e5⟩ := hold c h1
        exact ⟨by rw [hφm _ _ h1, e3], g0, e4, e5⟩
    · exact ⟨hφn r h1, g', hl, SameKind.refl _⟩
  · intro r g' hg
    rcases look_applyAll_some hn hg with ⟨o, c, h1, e1, e2⟩ | ⟨h1, hl⟩
    · subst e1; subst e2
      rw [hφm o c h1]
      exact hat o c h1
    · rw [hφn r h1]
      refine Reg.at_mono hm (fun b hb => hother b (Reg.at_block (R.rg r g' hl) hb) fun c hc hb2 => ?_) (R.rg r g' hl)
      obtain ⟨e3, g0, e4, _⟩ := hold c hc
      have := R.sep r c.id g' g0 b hl e4 hb (by rw [e3]; exact hb2)
      exact h1 _ hc this.symm
  · intro r r' g g' b h1 h2 h3 h4
    rcases look_applyAll_some hn h1 with ⟨o, c, m1, e1, e2⟩ | ⟨m1, l1⟩ <;> rcases look_applyAll_some hn h2 with ⟨o', c', m2, f1, f2⟩ | ⟨m2, l2⟩
    · subst e1; subst f1
      rw [hφm _ _ m1] at h3
      rw [hφm _ _ m2] at h4
      cases o with
      | false => cases o' with
        | false => exact hsep c c' b m1 m2 h3 h4
        | true =>
          obtain ⟨e3, g0, e4, _⟩ := hold c' m2
          have := (hnew c m1).2 b h3
          have := Reg.at_block (R.rg c'.id g0 e4) (by rw [e3]; exact h4)
          omega
      | true => cases o' with
        | false =>
          obtain ⟨e3, g0, e4, _⟩ := hold c m1
          have := (hnew c' m2).2 b h4
          have := Reg.at_block (R.rg c.id g0 e4) (by rw [e3]; exact h3)
          omega
        | true =>
          obtain ⟨e3, g0, e4, _⟩ := hold c m1
          obtain ⟨f3, g1, f4, _⟩ := hold c' m2
          exact R.sep _ _ _ _ b e4 f4 (by rw [e3]; exact h3) (by rw [f3]; exact h4)
    · subst e1
      rw [hφm _ _ m1] at h3
      rw [hφn _ m2] at h4
      cases o with
      | false =>
        have := (hnew c m1).2 b h3
        have := Reg.at_block (R.rg r' g' l2) h4
        omega
      | true =>
        obtain ⟨e3, g0, e4, _⟩ := hold c m1
        exact R.sep _ _ _ _ b e4 l2 (by rw [e3]; exact h3) h4
    · subst f1
      rw [hφm _ _ m2] at h4
      rw [hφn _ m1] at h3
      cases o' with
      | false =>
        have := (hnew c' m2).2 b h4
        have := Reg.at_block (R.rg r g l1) h3
        omega
      | true =>
        obtain ⟨e3, g0, e4, _⟩ := hold c' m2
        exact R.sep _ _ _ _ b l1 e4 h3 (by rw [e3]; exact h4)
    · rw [hφn _ m1] at h3
      rw [hφn _ m2] at h4
      exact R.sep _ _ _ _ b l1 l2 h3 h4
  · intro r g b h1 h2
    rcases hblk r g b h1 h2 with h | ⟨g0, h3, h4⟩
    · have := R.hB; left; omega
    · exact R.fr r g0 b h3 h4
  · intro r l h1 h2
    obtain ⟨g, hg⟩ := Option.isSome_iff_exists.1 h2
    rcases look_applyAll_some hn hg with ⟨o, c, m1, e1, e2⟩ | ⟨m1, l1⟩
    · subst e1
      cases o with
      | false => exact ((hnew c m1).1.2 l h1).elim
      | true =>
        obtain ⟨e3, g0, e4, _⟩ := hold c m1
        rw [hφm _ _ m1, ← e3]
        exact R.io c.id l h1 (by simp [e4])
    · rw [hφn _ m1]
      exact R.io r l h1 (by simp [l1])
  · refine ⟨hos, htape, hout, hsize, fun k hk hown => ?_⟩
    refine hother k (by have := R.hB; omega) (fun c hc hb => ?_)
    obtain ⟨e3, g0, e4, _⟩ := hold c hc
    rcases R.fr c.id g0 k e4 (by rw [e3]; exact hb) with h7 | h7
    · omega
    · exact hown h7

end Go.Lift
/- A call told by a summary: abstract, and that it tells what the machine does. -/
namespace Go.Lift
open Go

/-- A value handed in to be read. -/
def readV (rs : Regs) (esc : Bool) (v : SV) (t : Ty) : Option (t.den × Option Nat) :=
  match v with
  | .val u y => (castTy u t y).map fun z => (z, none)
  | .nilsl => match t with
    | .ro τ => some (([] : List τ.den), none)
    | _ => none
  | .sl r => if esc = true then none else match t with
    | .ro τ => match look rs r with
      | some (.row τ' xs) => (castTy (.ro τ') (.ro τ) xs).map fun z => (z, some r)
      | _ => none
    | _ => none
  | _ => none

/-- The parameters bound: what they hold, what must hold, the regions that may be written, those that are only read. -/
def bindP (rs : Regs) (esc : Bool) : (ps : List PK) → List SV → Option (dens ps × List Prop × List Nat × List Nat)
  | [], [] => some ((), [], [], [])
  | .v t :: ps, v :: vs => match readV rs esc v t, bindP rs esc ps vs with
    | some (y, b), some (x, vc, io, bo) => some ((y, x), vc, io, b.toList ++ bo)
    | _, _ => none
  | .nl :: ps, .nilsl :: vs => match bindP rs esc ps vs with
    | some (x, vc, io, bo) => some (((), x), vc, io, bo)
    | none => none
  | .box t :: ps, .addr r [] :: vs => match look rs r with
    | some (.box t' y) => match castTy t' t y, bindP rs esc ps vs with
      | some y, some (x, vc, io, bo) => some ((y, x), vc, r :: io, bo)
      | _, _ => none
    | some (.obox t' o) => match castTy t' t (o.getD t'.dflt), bindP rs esc ps vs with
      | some y, some (x, vc, io, bo) => some ((y, x), (o.isSome = true) :: vc, r :: io, bo)
      | _, _ => none
    | _ => none
  | .row t :: ps, .sl r :: vs => match look rs r with
    | some (.row t' ys) => match castTy (.ro t') (.ro t) ys, bindP rs esc ps vs with
      | some y, some (x, vc, io, bo) => some (((y : List t.den), x), vc, r :: io, bo)
      | _, _ => none
    | _ => none
  | _, _ => none

def ioRegs : (ps : List PK) → outs ps → List Nat → List (Nat × Reg)
  | .v _ :: ps, y, ids => ioRegs ps y.2 ids
  | .nl :: ps, y, ids => ioRegs ps y.2 ids
  | .box t :: ps, y, r :: ids => (r, .box t y.1) :: ioRegs ps y.2 ids
  | .row t :: ps, y, r :: ids => (r, .row t y.1) :: ioRegs ps y.2 ids
  | _, _, _ => []
def resVs : (rs : List RK) → rdens rs → Nat → List SV
  | [], _, _ => []
  | .v t :: rs, y, n => .val t y.1 :: resVs rs y.2 n
  | .row _ :: rs, y, n => .sl n :: resVs rs y.2 (n + 1)
  | .box _ :: rs, y, n => .addr n [] :: resVs rs y.2 (n + 1)
  | .obox _ :: rs, y, n => .addr n [] :: resVs rs y.2 (n + 1)
  | .vn t :: rs, y, n => .valn t y.1 :: resVs rs y.2 n
def resRegs : (rs : List RK) → rdens rs → Nat → List (Nat × Reg)
  | [], _, _ => []
  | .v _ :: rs, y, n => resRegs rs y.2 n
  | .row t :: rs, y, n => (n, .row t y.1) :: resRegs rs y.2 (n + 1)
  | .box t :: rs, y, n => (n, .box t y.1) :: resRegs rs y.2 (n + 1)
  | .obox t :: rs, y, n => (n, .obox t y.1) :: resRegs rs y.2 (n + 1)
  | .vn _ :: rs, y, n => resRegs rs y.2 n
def freshCount (rs : List RK) : Nat := (rs.filter RK.fresh).length
def retAV : List SV → AV
  | [v] => .s v
  | vs => .tup vs
def nodupB : List Nat → Bool
  | [] => true
  | x :: xs => !xs.contains x && nodupB xs
theorem nodupB_spec : ∀ {l : List Nat}, nodupB l = true → l.Nodup
  | [], _ => List.nodup_nil
  | x :: xs, h => by
    simp only [nodupB, Bool.and_eq_true, Bool.not_eq_true', List.contains_eq_mem, decide_eq_false_iff_not] at h
    exact List.nodup_cons.2 ⟨h.1, nodupB_spec h.2⟩

def callV (S : Summ) (rs : Regs) (n : Nat) (vs : List SV) : Option Out :=
  match bindP rs S.esc S.par vs with
  | some (x, vc, io, bo) =>
    if nodupB io && bo.all (fun r => !io.contains r) && decide (freshCount S.res ≤ 8) then
      some (vc ++ [S.pre x], retAV (resVs S.res (S.fn x).1 n),
        (ioRegs S.par (S.fn x).2 io).map (fun p => EffI.set (some p.1) p.1 p.2) ++ (resRegs S.res (S.fn x).1 n).map (fun p => EffI.set none p.1 p.2))
    else none
  | none => none

/-- What the parameters' binding says of the machine. -/
theorem bindP_sound {cx : Cx} {φ : Phi} {st : St} {a : Act} {w : World} (R : RelF cx φ st a w) {esc : Bool} (ok : Nat → Prop) (hok : ∀ b, okOf st.regs φ b → ok b) :
    ∀ (ps : List PK) (vs : List SV) (Vs : List Value) (x : dens ps) (vc : List Prop) (io bo : List Nat), bindP st.regs esc ps vs = some (x, vc, io, bo) → (∀ p ∈ vc, p) →
      (∀ r ∈ bo, ∀ b, (φ r).blk = some b → ok b) → All2 (SVRel st.regs φ (okOf st.regs φ) w) vs Vs →
      ∃ ls, PsRel ok (okOf st.regs φ) w ps x Vs ls ∧ ioLocs ps ls = io.map φ ∧ (∀ r ∈ io, ∃ g, look st.regs r = some g) := by
  have hmono : ∀ b o, okOf st.regs φ b → w.heap[b]? = some o → ok b ∧ w.heap[b]? = some o := fun b o h1 h2 => ⟨hok b h1, h2⟩
  intro ps
  induction ps with
  | nil =>
    intro vs Vs x vc io bo h hvc hbo hall
    cases vs with
    | nil =>
      cases hall
      simp only [bindP, Option.some.injEq, Prod.mk.injEq] at h
      obtain ⟨_, _, rfl, _⟩ := h
      exact ⟨[], ⟨rfl, rfl⟩, rfl, by simp⟩
    | cons v vs => simp [bindP] at h
  | cons p ps ih =>
    intro vs Vs x vc io bo h hvc hbo hall
    cases vs with
    | nil => cases p <;> simp [bindP] at h
    | cons v vs =>
      cases hall with
      | cons hv ht =>
        rename_i V Vs
        cases p with
        | v t =>
          simp only [bindP] at h
          split at h
          · rename_i y b x' vc' io' bo' hr hb
            simp only [Option.some.injEq, Prod.mk.injEq] at h
            obtain ⟨rfl, rfl, rfl, rfl⟩ := h
            obtain ⟨ls, h1, h2, h4⟩ := ih vs Vs x' vc' io' bo' hb hvc (fun r hr => hbo r (List.mem_append_right _ hr)) ht
            refine ⟨⟨none, 0, 0⟩ :: ls, ⟨V, Vs, _, ls, rfl, rfl, ?_, h1⟩, by simpa [ioLocs, PK.io] using h2, h4⟩
            unfold readV at hr
            split at hr
            · rename_i u z
              rw [Option.map_eq_some_iff] at hr
              obtain ⟨z', hz, e⟩ := hr
              cases e
              obtain ⟨e1, e2⟩ := castTy_some hz
              subst e1; subst e2
              exact VRel.mono hmono hv
            · split at hr
              · cases hr
                have hv' : V = .slice none 0 0 := hv
                subst hv'
                exact ⟨⟨none, 0, rfl, Nat.le_refl _, .inl rfl⟩, rfl, rfl⟩
              · cases hr
            · rename_i r
              split at hr
              · cases hr
              · split at hr
                · rename_i τ
                  split at hr
                  · rename_i τ' xs hl
                    rw [Option.map_eq_some_iff] at hr
                    obtain ⟨z', hz, e⟩ := hr
                    cases e
                    obtain ⟨e1, e2⟩ := castTy_some hz
                    cases e1
                    subst e2
                    have hV : V = _ := hv _ _ hl
                    subst hV
                    exact row_val R hl ok hok (fun b hb => hbo r (by simp) b hb)
                  · cases hr
                · cases hr
            · cases hr
          · cases h
        | nl =>
          cases v <;> first | (simp [bindP] at h; done) | skip
          simp only [bindP] at h
          split at h
          · rename_i x' vc' io' bo' hb
            simp only [Option.some.injEq, Prod.mk.injEq] at h
            obtain ⟨rfl, rfl, rfl, rfl⟩ := h
            obtain ⟨ls, h1, h2, h4⟩ := ih vs Vs x' vc' io' bo' hb hvc hbo ht
            have hv' : V = .slice none 0 0 := hv
            exact ⟨⟨none, 0, 0⟩ :: ls, ⟨V, Vs, _, ls, rfl, rfl, hv', h1⟩, by simpa [ioLocs, PK.io] using h2, h4⟩
          · cases h
        | box t =>
          cases v with
          | addr r p =>
            cases p with
            | nil =>
              simp only [bindP] at h
              split at h
              · rename_i t' y hl
                split at h
                · rename_i y' x' vc' io' bo' hc hb
                  simp only [Option.some.injEq, Prod.mk.injEq] at h
                  obtain ⟨rfl, rfl, rfl, rfl⟩ := h
                  obtain ⟨e1, e2⟩ := castTy_some hc
                  subst e1; subst e2
                  obtain ⟨ls, h1, h2, h4⟩ := ih vs Vs x' vc' io' bo' hb hvc hbo ht
                  have hg := R.rg r _ hl
                  obtain ⟨b, g1, _, g3⟩ := hv _ hl
                  refine ⟨φ r :: ls, ⟨V, Vs, _, ls, rfl, rfl, ⟨hg, b, g1, by rw [g3]; simp [poff]⟩, h1⟩, by simp [ioLocs, PK.io, h2], ?_⟩
                  intro s hs
                  rcases List.mem_cons.1 hs with hs | hs
                  · subst hs; exact ⟨_, hl⟩
                  · exact h4 s hs
                · cases h
              · rename_i t' o hl
                split at h
                · rename_i y' x' vc' io' bo' hc hb
                  simp only [Option.some.injEq, Prod.mk.injEq] at h
                  obtain ⟨rfl, rfl, rfl, rfl⟩ := h
                  have ho : o.isSome = true := hvc _ (by simp)
                  obtain ⟨z, rfl⟩ := Option.isSome_iff_exists.1 ho
                  obtain ⟨e1, e2⟩ := castTy_some hc
                  subst e1; subst e2
                  obtain ⟨ls, h1, h2, h4⟩ := ih vs Vs x' vc' io' bo' hb (fun p hp => hvc p (List.mem_cons_of_mem _ hp)) hbo ht
                  have hg := R.rg r _ hl
                  obtain ⟨_, g2, g3⟩ := hv _ hl
                  obtain ⟨f0, b, cs, ty, fz, f1, f2, f3, f4, f5⟩ := id hg
                  rw [f1] at g3
                  refine ⟨φ r :: ls, ⟨V, Vs, _, ls, rfl, rfl, ⟨hg, b, f1, g3⟩, h1⟩, by simp [ioLocs, PK.io, h2], ?_⟩
                  intro s hs
                  rcases List.mem_cons.1 hs with hs | hs
                  · subst hs; exact ⟨_, hl⟩
                  · exact h4 s hs
                · cases h
              · cases h
            | cons _ _ => simp [bindP] at h
          | _ => simp [bindP] at h
        | row t =>
          cases v with
          | sl r =>
            simp only [bindP] at h
            split at h
            · rename_i t' ys hl
              split at h
              · rename_i y' x' vc' io' bo' hc hb
                simp only [Option.some.injEq, Prod.mk.injEq] at h
                obtain ⟨rfl, rfl, rfl, rfl⟩ := h
                obtain ⟨e1, e2⟩ := castTy_some hc
                cases e1
                have e2 : ys = y' := e2
                subst e2
                obtain ⟨ls, h1, h2, h4⟩ := ih vs Vs x' vc' io' bo' hb hvc hbo ht
                have hg := R.rg r _ hl
                have hV := hv _ _ hl
                refine ⟨φ r :: ls, ⟨V, Vs, _, ls, rfl, rfl, ⟨hg, hV⟩, h1⟩, by simp [ioLocs, PK.io, h2], ?_⟩
                intro s hs
                rcases List.mem_cons.1 hs with hs | hs
                · subst hs; exact ⟨_, hl⟩
                · exact h4 s hs
              · cases h
            · cases h
          | _ => simp [bindP] at h

theorem bindP_bo {rs : Regs} {esc : Bool} : ∀ (ps : List PK) (vs : List SV) (x : dens ps) (vc : List Prop) (io bo : List Nat), bindP rs esc ps vs = some (x, vc, io, bo) → ∀ r ∈ bo, esc = false ∧ ∃ g, look rs r = some g := by
  intro ps
  induction ps with
  | nil =>
    intro vs x vc io bo h r hr
    cases vs with
    | nil => simp only [bindP, Option.some.injEq, Prod.mk.injEq] at h; obtain ⟨_, _, _, rfl⟩ := h; cases hr
    | cons v vs => simp [bindP] at h
  | cons p ps ih =>
    intro vs x vc io bo h r hr
    cases vs with
    | nil => cases p <;> simp [bindP] at h
    | cons v vs =>
      cases p with
      | v t =>
        simp only [bindP] at h
        split at h
        · rename_i y b x' vc' io' bo' hrd hb
          simp only [Option.some.injEq, Prod.mk.injEq] at h
          obtain ⟨rfl, rfl, rfl, rfl⟩ := h
          rcases List.mem_append.1 hr with hr | hr
          · unfold readV at hrd
            split at hrd
            · rw [Option.map_eq_some_iff] at hrd
              obtain ⟨z', hz, e⟩ := hrd
              cases e; simp at hr
            · split at hrd <;> cases hrd; simp at hr
            · rename_i s
              split at hrd
              · cases hrd
              · rename_i hesc
                split at hrd
                · split at hrd
                  · rename_i τ' xs hl
                    rw [Option.map_eq_some_iff] at hrd
                    obtain ⟨z', hz, e⟩ := hrd
                    cases e
                    simp at hr
                    subst hr
                    exact ⟨by simpa using hesc, _, hl⟩
                  · cases hrd
                · cases hrd
            · cases hrd
          · exact ih vs x' vc' io' bo' hb r hr
        · cases h
      | nl =>
        cases v <;> first | (simp [bindP] at h; done) | skip
        simp only [bindP] at h
        split at h
        · rename_i x' vc' io' bo' hb
          simp only [Option.some.injEq, Prod.mk.injEq] at h
          obtain ⟨rfl, rfl, rfl, rfl⟩ := h
          exact ih vs x' vc' io' bo' hb r hr
        · cases h
      | box t =>
        cases v with
        | addr s p =>
          cases p with
          | nil =>
            simp only [bindP] at h
            split at h
            · split at h
              · rename_i y' x' vc' io' bo' hc hb
                simp only [Option.some.injEq, Prod.mk.injEq] at h
                obtain ⟨rfl, rfl, rfl, rfl⟩ := h
                exact ih vs x' vc' io' bo' hb r hr
              · cases h
            · split at h
              · rename_i y' x' vc' io' bo' hc hb
                simp only [Option.some.injEq, Prod.mk.injEq] at h
                obtain ⟨rfl, rfl, rfl, rfl⟩ := h
                exact ih vs x' vc' io' bo' hb r hr
              · cases h
            · cases h
          | cons _ _ => simp [bindP] at h
        | _ => simp [bindP] at h
      | row t =>
        cases v with
        | sl s =>
          simp only [bindP] at h
          split at h
          · split at h
            · rename_i y' x' vc' io' bo' hc hb
              simp only [Option.some.injEq, Prod.mk.injEq] at h
              obtain ⟨rfl, rfl, rfl, rfl⟩ := h
              exact ih vs x' vc' io' bo' hb r hr
            · cases h
          · cases h
        | _ => simp [bindP] at h

/-- The written regions, as they are afterwards. -/
theorem ioRegs_sound {rs : Regs} {esc : Bool} {φ : Phi} {ok : Nat → Prop} {w : World} : ∀ (ps : List PK) (vs : List SV) (x : dens ps) (vc : List Prop) (io bo : List Nat) (y : outs ps) (ls : List Loc), bindP rs esc ps vs = some (x, vc, io, bo) → (∀ p ∈ vc, p) →
    ioLocs ps ls = io.map φ → ls.length = ps.length → OutRel ok w ps x y ls →
    (ioRegs ps y io).map (·.1) = io ∧ ∀ r g', (r, g') ∈ ioRegs ps y io → (∃ g, look rs r = some g ∧ SameKind g g') ∧ g'.at ok w (φ r) := by
  intro ps
  induction ps with
  | nil =>
    intro vs x vc io bo y ls h hvc hl hll ho
    cases vs with
    | nil =>
      simp only [bindP, Option.some.injEq, Prod.mk.injEq] at h
      obtain ⟨_, _, rfl, _⟩ := h
      exact ⟨rfl, fun r g' hm => by simp [ioRegs] at hm⟩
    | cons v vs => simp [bindP] at h
  | cons p ps ih =>
    intro vs x vc io bo y ls h hvc hl hll ho
    cases ls with
    | nil => simp at hll
    | cons l ls =>
    have hll' : ls.length = ps.length := by simpa using hll
    cases vs with
    | nil => cases p <;> simp [bindP] at h
    | cons v vs =>
      cases p with
      | v t =>
        simp only [bindP] at h
        split at h
        · rename_i y0 b x' vc' io' bo' hrd hb
          simp only [Option.some.injEq, Prod.mk.injEq] at h
          obtain ⟨rfl, rfl, rfl, rfl⟩ := h
          have hl' : ioLocs ps ls = io'.map φ := by simpa [ioLocs, PK.io] using hl
          exact ih vs x' vc' io' bo' y.2 ls hb hvc hl' hll' ho
        · cases h
      | nl =>
        cases v <;> first | (simp [bindP] at h; done) | skip
        simp only [bindP] at h
        split at h
        · rename_i x' vc' io' bo' hb
          simp only [Option.some.injEq, Prod.mk.injEq] at h
          obtain ⟨rfl, rfl, rfl, rfl⟩ := h
          have hl' : ioLocs ps ls = io'.map φ := by simpa [ioLocs, PK.io] using hl
          exact ih vs x' vc' io' bo' y.2 ls hb hvc hl' hll' ho
        · cases h
      | box t =>
        cases v with
        | addr s p =>
          cases p with
          | nil =>
            simp only [bindP] at h
            split at h
            · rename_i t' y1 hlk
              split at h
              · rename_i y' x' vc' io' bo' hc hb
                simp only [Option.some.injEq, Prod.mk.injEq] at h
                obtain ⟨rfl, rfl, rfl, rfl⟩ := h
                obtain ⟨e1, e2⟩ := castTy_some hc
                subst e1
                simp only [ioLocs, PK.io, if_true, List.map_cons, List.cons.injEq] at hl
                obtain ⟨hl1, hl2⟩ := hl
                obtain ⟨⟨l1, ho1, ho2⟩, ho3⟩ := ho
                simp only [List.head?_cons, Option.some.injEq] at ho1
                subst ho1
                obtain ⟨i1, i2⟩ := ih vs x' vc' io' bo' y.2 ls hb hvc hl2 hll' ho3
                refine ⟨by simp [ioRegs, i1], fun r g' hm => ?_⟩
                simp only [ioRegs, List.mem_cons] at hm
                rcases hm with hm | hm
                · cases hm
                  exact ⟨⟨_, hlk, rfl⟩, hl1 ▸ ho2⟩
                · exact i2 r g' hm
              · cases h
            · rename_i t' o hlk
              split at h
              · rename_i y' x' vc' io' bo' hc hb
                simp only [Option.some.injEq, Prod.mk.injEq] at h
                obtain ⟨rfl, rfl, rfl, rfl⟩ := h
                have hs : o.isSome = true := hvc _ (by simp)
                obtain ⟨z, rfl⟩ := Option.isSome_iff_exists.1 hs
                obtain ⟨e1, e2⟩ := castTy_some hc
                subst e1
                simp only [ioLocs, PK.io, if_true, List.map_cons, List.cons.injEq] at hl
                obtain ⟨hl1, hl2⟩ := hl
                obtain ⟨⟨l1, ho1, ho2⟩, ho3⟩ := ho
                simp only [List.head?_cons, Option.some.injEq] at ho1
                subst ho1
                obtain ⟨i1, i2⟩ := ih vs x' vc' io' bo' y.2 ls hb (fun p hp => hvc p (List.mem_cons_of_mem _ hp)) hl2 hll' ho3
                refine ⟨by simp [ioRegs, i1], fun r g' hm => ?_⟩
                simp only [ioRegs, List.mem_cons] at hm
                rcases hm with hm | hm
                · cases hm
                  exact ⟨⟨_, hlk, rfl⟩, hl1 ▸ ho2⟩
                · exact i2 r g' hm
              · cases h
            · cases h
          | cons _ _ => simp [bindP] at h
        | _ => simp [bindP] at h
      | row t =>
        cases v with
        | sl s =>
          simp only [bindP] at h
          split at h
          · rename_i t' ys hlk
            split at h
            · rename_i y' x' vc' io' bo' hc hb
              simp only [Option.some.injEq, Prod.mk.injEq] at h
              obtain ⟨rfl, rfl, rfl, rfl⟩ := h
              obtain ⟨e1, e2⟩ := castTy_some hc
              cases e1
              have e2 : ys = y' := e2
              subst e2
              simp only [ioLocs, PK.io, if_true, List.map_cons, List.cons.injEq] at hl
              obtain ⟨hl1, hl2⟩ := hl
              obtain ⟨⟨l1, ho1, ho2, ho4⟩, ho3⟩ := ho
              simp only [List.head?_cons, Option.some.injEq] at ho1
              subst ho1
              obtain ⟨i1, i2⟩ := ih vs x' vc' io' bo' y.2 ls hb hvc hl2 hll' ho3
              refine ⟨by simp [ioRegs, i1], fun r g' hm => ?_⟩
              simp only [ioRegs, List.mem_cons] at hm
              rcases hm with hm | hm
              · cases hm
                exact ⟨⟨_, hlk, ⟨rfl, ho4.symm⟩⟩, hl1 ▸ ho2⟩
              · exact i2 r g' hm
            · cases h
          · cases h
        | _ => simp [bindP] at h

theorem PsRel.length {ok okO : Nat → Prop} {w : World} : ∀ (ps : List PK) (x : dens ps) (vs : List Value) (ls : List Loc), PsRel ok okO w ps x vs ls → ls.length = ps.length
  | [], _, _, _, h => by rw [h.2]; rfl
  | p :: ps, x, vs, ls, h => by
    obtain ⟨v, vs', l, ls', rfl, rfl, _, h2⟩ := h
    simp [PsRel.length ps _ _ _ h2]

end Go.Lift
/- A call told by a summary: soundness. -/
namespace Go.Lift
open Go

def resChg : (rs : List RK) → rdens rs → Nat → List Loc → List Chg
  | .v _ :: rs, y, n, _ :: ls => resChg rs y.2 n ls
  | .vn _ :: rs, y, n, _ :: ls => resChg rs y.2 n ls
  | .row t :: rs, y, n, l :: ls => ⟨n, .row t y.1, l⟩ :: resChg rs y.2 (n + 1) ls
  | .box t :: rs, y, n, l :: ls => ⟨n, .box t y.1, l⟩ :: resChg rs y.2 (n + 1) ls
  | .obox t :: rs, y, n, l :: ls => ⟨n, .obox t y.1, l⟩ :: resChg rs y.2 (n + 1) ls
  | _, _, _, _ => []

theorem resChg_sound {ok : Nat → Prop} {w : World} : ∀ (rs : List RK) (y : rdens rs) (n : Nat) (vs : List Value) (rl : List Loc), RsRel ok w rs y vs rl →
    (resChg rs y n rl).map (fun c => (c.id, c.reg)) = resRegs rs y n ∧ (resChg rs y n rl).map (·.loc) = freshLocs rs rl ∧
    (∀ c ∈ resChg rs y n rl, c.reg.at ok w c.loc ∧ n ≤ c.id ∧ c.id < n + freshCount rs) ∧ ((resChg rs y n rl).map (·.id)).Nodup
  | [], y, n, vs, rl, h => by
    obtain ⟨rfl, rfl⟩ := h
    simp [resChg, resRegs, freshLocs]
  | r :: rs, y, n, vs, rl, h => by
    obtain ⟨v, vs', l, ls', rfl, rfl, h1, h2⟩ := h
    have key : ∀ (g : Reg), g.at ok w l → (freshCount (r :: rs) = freshCount rs + 1) →
        (∀ c ∈ (⟨n, g, l⟩ : Chg) :: resChg rs y.2 (n + 1) ls', c.reg.at ok w c.loc ∧ n ≤ c.id ∧ c.id < n + freshCount (r :: rs)) ∧ (((⟨n, g, l⟩ : Chg) :: resChg rs y.2 (n + 1) ls').map (·.id)).Nodup := by
      intro g hg hcnt
      obtain ⟨_, _, i3, i4⟩ := resChg_sound rs y.2 (n + 1) vs' ls' h2
      constructor
      · intro c hc
        rcases List.mem_cons.1 hc with hc | hc
        · subst hc; exact ⟨hg, Nat.le_refl _, by rw [hcnt]; show n < _; omega⟩
        · obtain ⟨j1, j2, j3⟩ := i3 c hc
          exact ⟨j1, by omega, by rw [hcnt]; omega⟩
      · simp only [List.map_cons, List.nodup_cons]
        refine ⟨fun hm => ?_, i4⟩
        obtain ⟨c, hc, e⟩ := List.mem_map.1 hm
        have := (i3 c hc).2.1
        omega
    cases r with
    | vn t =>
      obtain ⟨i1, i2, i3, i4⟩ := resChg_sound rs y.2 n vs' ls' h2
      exact ⟨by simp [resChg, resRegs, i1], by simp [resChg, freshLocs, RK.fresh, i2], by simpa [resChg, freshCount, RK.fresh] using i3, by simpa [resChg] using i4⟩
    | v t =>
      obtain ⟨i1, i2, i3, i4⟩ := resChg_sound rs y.2 n vs' ls' h2
      exact ⟨by simp [resChg, resRegs, i1], by simp [resChg, freshLocs, RK.fresh, i2], by simpa [resChg, freshCount, RK.fresh] using i3, by simpa [resChg] using i4⟩
    | row t =>
      obtain ⟨i1, i2, _, _⟩ := resChg_sound rs y.2 (n + 1) vs' ls' h2
      obtain ⟨k1, k2⟩ := key _ h1.1 (by unfold freshCount; rw [List.filter_cons_of_pos rfl]; rfl)
      exact ⟨by simp [resChg, resRegs, i1], by simp [resChg, freshLocs, RK.fresh, i2], k1, k2⟩
    | box t =>
      obtain ⟨i1, i2, _, _⟩ := resChg_sound rs y.2 (n + 1) vs' ls' h2
      obtain ⟨k1, k2⟩ := key _ h1.1 (by unfold freshCount; rw [List.filter_cons_of_pos rfl]; rfl)
      exact ⟨by simp [resChg, resRegs, i1], by simp [resChg, freshLocs, RK.fresh, i2], k1, k2⟩
    | obox t =>
      obtain ⟨i1, i2, _, _⟩ := resChg_sound rs y.2 (n + 1) vs' ls' h2
      obtain ⟨k1, k2⟩ := key _ h1.1 (by unfold freshCount; rw [List.filter_cons_of_pos rfl]; rfl)
      exact ⟨by simp [resChg, resRegs, i1], by simp [resChg, freshLocs, RK.fresh, i2], k1, k2⟩

theorem resVs_sound {ok ok' : Nat → Prop} {w : World} {R : Regs} {φ : Phi} (hm : ∀ b o, ok b → w.heap[b]? = some o → ok' b ∧ w.heap[b]? = some o) : ∀ (rs : List RK) (y : rdens rs) (n : Nat) (vs : List Value) (rl : List Loc), RsRel ok w rs y vs rl →
    (∀ c ∈ resChg rs y n rl, look R c.id = some c.reg ∧ φ c.id = c.loc) → All2 (SVRel R φ ok' w) (resVs rs y n) vs
  | [], y, n, vs, rl, h, _ => by
    obtain ⟨rfl, rfl⟩ := h
    exact .nil
  | r :: rs, y, n, vs, rl, h, hc => by
    obtain ⟨v, vs', l, ls', rfl, rfl, h1, h2⟩ := h
    cases r with
    | v t => exact .cons (VRel.mono hm h1) (resVs_sound hm rs y.2 n vs' ls' h2 hc)
    | vn t => exact .cons ⟨VRel.mono hm h1.1, h1.2⟩ (resVs_sound hm rs y.2 n vs' ls' h2 hc)
    | row t =>
      obtain ⟨e1, e2⟩ := hc ⟨n, .row t y.1, l⟩ (List.mem_cons_self ..)
      refine .cons ?_ (resVs_sound hm rs y.2 (n + 1) vs' ls' h2 (fun c hc' => hc c (List.mem_cons_of_mem _ hc')))
      intro t' xs' hl
      rw [e1] at hl; cases hl
      rw [e2]
      exact h1.2
    | box t =>
      obtain ⟨e1, e2⟩ := hc ⟨n, .box t y.1, l⟩ (List.mem_cons_self ..)
      refine .cons ?_ (resVs_sound hm rs y.2 (n + 1) vs' ls' h2 (fun c hc' => hc c (List.mem_cons_of_mem _ hc')))
      intro g hl
      rw [e1] at hl; cases hl
      obtain ⟨f0, b, cs, ty, fz, f1, _⟩ := h1.1
      refine ⟨b, by rw [e2]; exact f1, by simp [pok], ?_⟩
      have := h1.2
      rw [f1] at this
      simpa [poff] using this
    | obox t =>
      obtain ⟨e1, e2⟩ := hc ⟨n, .obox t y.1, l⟩ (List.mem_cons_self ..)
      refine .cons ?_ (resVs_sound hm rs y.2 (n + 1) vs' ls' h2 (fun c hc' => hc c (List.mem_cons_of_mem _ hc')))
      intro g hl
      rw [e1] at hl; cases hl
      refine ⟨rfl, ?_, by rw [e2]; exact h1.2⟩
      have h3 := h1.1
      rw [e2]
      cases ho : y.1 with
      | none =>
        rw [ho] at h3
        have h3' : l.blk = none := h3
        rw [h3']; rfl
      | some z =>
        rw [ho] at h3
        obtain ⟨_, b, cs, ty, fz, f1, _⟩ := h3
        rw [f1]; rfl

theorem retAV_sound {R : Regs} {φ : Phi} {ok : Nat → Prop} {w : World} {xs : List SV} {vs : List Value} (h : All2 (SVRel R φ ok w) xs vs) : AVRel R φ ok w (retAV xs) (retVal vs) := by
  cases h with
  | nil => exact ⟨#[], rfl, .nil⟩
  | cons h1 h2 =>
    cases h2 with
    | nil => exact h1
    | cons h3 h4 => exact ⟨_, rfl, .cons h1 (.cons h3 h4)⟩

theorem app_all (rs : Regs) : ∀ (L : List (Bool × Chg)), applyAll rs L = Eff.app rs (L.map fun oc => Chg.eff oc.1 oc.2)
  | [] => rfl
  | (o, c) :: L => by simp only [applyAll, List.map_cons, Eff.app]; exact app_all _ L

theorem blk_nodup {cx : Cx} {φ : Phi} {st : St} {a : Act} {w : World} (R : RelF cx φ st a w) : ∀ (io : List Nat), io.Nodup → (∀ r ∈ io, ∃ g, look st.regs r = some g) → (blks (io.map φ)).Nodup
  | [], _, _ => by simp [blks]
  | r :: io, hnd, hlive => by
    have hnd' := List.nodup_cons.1 hnd
    have ih' := blk_nodup R io hnd'.2 (fun s hs => hlive s (List.mem_cons_of_mem _ hs))
    simp only [blks, List.map_cons, List.filterMap_cons]
    split
    · exact ih'
    · rename_i b hbk
      refine List.nodup_cons.2 ⟨fun hm => ?_, ih'⟩
      simp only [List.mem_filterMap, List.mem_map] at hm
      obtain ⟨l, ⟨s, hs, rfl⟩, h2⟩ := hm
      obtain ⟨g, h3⟩ := hlive r (List.mem_cons_self ..)
      obtain ⟨g', h4⟩ := hlive s (List.mem_cons_of_mem _ hs)
      have := R.sep r s g g' b h3 h4 hbk h2
      subst this
      exact hnd'.1 hs

theorem callV_sound {cx : Cx} {φ : Phi} {st : St} {a : Act} {w : World} (R : RelF cx φ st a w) {f : FuncId} {S : Summ} (hS : SumOK cx.P f S) {n : Nat} (hf : ∀ k, k < 8 → FreshN cx st (n + k))
    {vs : List SV} {Vs : List Value} {vc : List Prop} {av : AV} {e : Eff} (h : callV S st.regs n vs = some (vc, av, e)) (hvc : ∀ p ∈ vc, p) (hall : All2 (SVRel st.regs φ (okOf st.regs φ) w) vs Vs) :
    Calls cx.P f Vs.toArray w fun e' w' => ∃ V φ', e' = .returned V ∧ RelF cx φ' { st with regs := e.app st.regs } a w' ∧ AVRel (e.app st.regs) φ' (okOf (e.app st.regs) φ') w' av V := by
  unfold callV at h
  split at h
  · rename_i x vc0 io bo hb
    split at h
    · rename_i hc
      simp only [Bool.and_eq_true, decide_eq_true_eq, List.all_eq_true, Bool.not_eq_true', List.contains_eq_mem, decide_eq_false_iff_not] at hc
      obtain ⟨⟨hnd, hbo⟩, hcnt⟩ := hc
      have hnd := nodupB_spec hnd
      simp only [Option.some.injEq, Prod.mk.injEq] at h
      obtain ⟨rfl, rfl, rfl⟩ := h
      have hpre : S.pre x := hvc _ (by simp)
      have hvc0 : ∀ p ∈ vc0, p := fun p hp => hvc p (by simp [hp])
      have hbosp := bindP_bo _ _ _ _ _ _ hb
      -- what may be read
      let ok : Nat → Prop := fun b => okOf st.regs φ b ∨ (S.esc = false ∧ ∀ r ∈ io, (φ r).blk ≠ some b)
      have hlive : ∀ r ∈ io, ∃ g, look st.regs r = some g := by
        obtain ⟨_, _, _, h4⟩ := bindP_sound R (fun _ => True) (fun _ _ => trivial) _ _ _ _ _ _ _ hb hvc0 (fun _ _ _ _ => trivial) hall
        exact h4
      obtain ⟨ls, hps, hio, _⟩ := bindP_sound R ok (fun b h => .inl h) _ _ _ _ _ _ _ hb hvc0 (fun r hr b hbk => by
        obtain ⟨h1, g, h2⟩ := hbosp r hr
        refine .inr ⟨h1, fun s hs hsb => ?_⟩
        obtain ⟨g', h3⟩ := hlive s hs
        have := R.sep r s g g' b h2 h3 hbk hsb
        subst this
        exact hbo r hr hs) hall
      have hll := hps.length
      have hblks : ∀ b, b ∈ blks (ioLocs S.par ls) ↔ ∃ r ∈ io, (φ r).blk = some b := by
        intro b
        rw [hio]
        simp only [blks, List.mem_filterMap, List.mem_map]
        constructor
        · rintro ⟨l, ⟨r, hr, rfl⟩, h2⟩; exact ⟨r, hr, h2⟩
        · rintro ⟨r, hr, h2⟩; exact ⟨_, ⟨r, hr, rfl⟩, h2⟩
      have hblkn : (blks (ioLocs S.par ls)).Nodup := by rw [hio]; exact blk_nodup R io hnd hlive
      refine (hS x Vs ls w ok (okOf st.regs φ) hpre hps hblkn (fun b hbm => ?_)).mono ?_
      · obtain ⟨r, hr, h2⟩ := (hblks b).1 hbm
        obtain ⟨g, h3⟩ := hlive r hr
        refine ⟨?_, fun h => h.1 r g h3 h2⟩
        rintro (h | ⟨_, h⟩)
        · exact h.1 r g h3 h2
        · exact h r hr h2
      · rintro e' w' ⟨rvs, rl, rfl, hk, hres, hfn, hfb, hout⟩
        obtain ⟨c1, c2, c3, c4⟩ := resChg_sound S.res (S.fn x).1 n rvs rl hres
        obtain ⟨d1, d2⟩ := ioRegs_sound (φ := φ) S.par vs x vc0 io bo (S.fn x).2 ls hb hvc0 hio hll hout
        let Lio : List (Bool × Chg) := (ioRegs S.par (S.fn x).2 io).map fun p => (true, ⟨p.1, p.2, φ p.1⟩)
        let Lres : List (Bool × Chg) := (resChg S.res (S.fn x).1 n rl).map fun c => (false, c)
        have hmemT : ∀ c, (true, c) ∈ Lio ++ Lres → ∃ g', (c.id, g') ∈ ioRegs S.par (S.fn x).2 io ∧ c.reg = g' ∧ c.loc = φ c.id := by
          intro c hc
          rcases List.mem_append.1 hc with hc | hc
          · obtain ⟨p, hp, e⟩ := List.mem_map.1 hc
            cases e
            exact ⟨p.2, hp, rfl, rfl⟩
          · obtain ⟨p, hp, e⟩ := List.mem_map.1 hc
            cases e
        have hmemF : ∀ c, (false, c) ∈ Lio ++ Lres → c ∈ resChg S.res (S.fn x).1 n rl := by
          intro c hc
          rcases List.mem_append.1 hc with hc | hc
          · obtain ⟨p, hp, e⟩ := List.mem_map.1 hc
            cases e
          · obtain ⟨p, hp, e⟩ := List.mem_map.1 hc
            cases e
            exact hp
        have hidT : ∀ c, (true, c) ∈ Lio ++ Lres → c.id ∈ io := by
          intro c hc
          obtain ⟨g', h1, _⟩ := hmemT c hc
          rw [← d1]
          exact List.mem_map.2 ⟨_, h1, rfl⟩
        have hfreshid : ∀ c ∈ resChg S.res (S.fn x).1 n rl, FreshN cx st c.id := by
          intro c hc
          obtain ⟨_, h2, h3⟩ := c3 c hc
          have := hf (c.id - n) (by omega)
          rwa [show n + (c.id - n) = c.id from by omega] at this
        have hids : ((Lio ++ Lres).map (·.2.id)).Nodup := by
          have e1 : (Lio ++ Lres).map (·.2.id) = io ++ (resChg S.res (S.fn x).1 n rl).map (·.id) := by
            simp only [Lio, Lres, List.map_append, List.map_map]
            congr 1
          rw [e1]
          refine List.nodup_append.2 ⟨hnd, c4, fun r hr s hs e => ?_⟩
          obtain ⟨c, hc, e2⟩ := List.mem_map.1 hs
          obtain ⟨g, hg⟩ := hlive r hr
          have := (hfreshid c hc).1.1
          rw [e2, ← e, hg] at this
          cases this
        have hEff : Eff.app st.regs ((ioRegs S.par (S.fn x).2 io).map (fun p => EffI.set (some p.1) p.1 p.2) ++ (resRegs S.res (S.fn x).1 n).map (fun p => EffI.set none p.1 p.2)) = applyAll st.regs (Lio ++ Lres) := by
          rw [app_all]
          congr 1
          rw [← c1]
          simp only [Lio, Lres, List.map_append, List.map_map]
          congr 1
        rw [hEff]
        have hblkOf : ∀ c ∈ resChg S.res (S.fn x).1 n rl, ∀ b, c.loc.blk = some b → b ∈ blks (freshLocs S.res rl) := by
          intro c hc b hbk
          rw [← c2]
          exact List.mem_filterMap.2 ⟨c.loc, List.mem_map.2 ⟨c, hc, rfl⟩, hbk⟩
        have hsepF : ∀ c c' b, c ∈ resChg S.res (S.fn x).1 n rl → c' ∈ resChg S.res (S.fn x).1 n rl → c.loc.blk = some b → c'.loc.blk = some b → c.id = c'.id := by
          intro c c' b h1 h2 h3 h4
          rw [← c2] at hfn
          have aux : ∀ (l : List Chg), (blks (l.map (·.loc))).Nodup → c ∈ l → c' ∈ l → c = c' := by
            intro l
            induction l with
            | nil => intro _ h; cases h
            | cons d l ih =>
              intro hnd hc hc'
              simp only [blks, List.map_cons, List.filterMap_cons] at hnd
              have hin : ∀ q ∈ l, q.loc.blk = some b → b ∈ blks (l.map (·.loc)) := fun q hq hqb => List.mem_filterMap.2 ⟨q.loc, List.mem_map.2 ⟨q, hq, rfl⟩, hqb⟩
              rcases List.mem_cons.1 hc with k1 | k1 <;> rcases List.mem_cons.1 hc' with k2 | k2
              · rw [k1, k2]
              · rw [← k1, h3] at hnd
                exact ((List.nodup_cons.1 hnd).1 (hin _ k2 h4)).elim
              · rw [← k2, h4] at hnd
                exact ((List.nodup_cons.1 hnd).1 (hin _ k1 h3)).elim
              · refine ih ?_ k1 k2
                split at hnd
                · exact hnd
                · exact (List.nodup_cons.1 hnd).2
          rw [aux _ hfn h1 h2]
        -- what may be read afterwards
        have hokA : ∀ b, ((w.heap.size ≤ b ∧ b ∉ blks (freshLocs S.res rl)) ∨ (S.esc = true ∧ ok b ∧ b < w.heap.size) ∨ (okOf st.regs φ b ∧ b < w.heap.size)) → okOf (applyAll st.regs (Lio ++ Lres)) (setLocs φ ((Lio ++ Lres).map (·.2))) b := by
          intro b hb0
          have hids' : (((Lio ++ Lres).map (·.2)).map (·.id)).Nodup := by rw [List.map_map]; exact hids
          have hb1 : (w.heap.size ≤ b ∧ b ∉ blks (freshLocs S.res rl)) ∨ (okOf st.regs φ b ∧ b < w.heap.size) := by
            rcases hb0 with h | ⟨h, h' | ⟨h', _⟩, h2⟩ | h
            · exact .inl h
            · exact .inr ⟨h', h2⟩
            · rw [h] at h'; cases h'
            · exact .inr h
          refine ⟨fun s g hs hsb => ?_, ?_⟩
          rotate_left
          · show φ.base b
            rcases hb1 with ⟨h, _⟩ | ⟨h, _⟩
            · exact (R.bs b).2 (.inl (Nat.le_trans R.hB h))
            · exact h.2
          rcases look_applyAll_some hids hs with ⟨o, c, m1, e1, _⟩ | ⟨m1, l1⟩
          · subst e1
            rw [setLocs_mem _ φ c hids' (List.mem_map.2 ⟨(o, c), m1, rfl⟩)] at hsb
            cases o with
            | false =>
              have hin := hblkOf c (hmemF c m1) b hsb
              have hsz := hfb b hin
              rcases hb1 with ⟨_, h⟩ | ⟨_, h⟩
              · exact h hin
              · omega
            | true =>
              obtain ⟨g', h1, _, h3⟩ := hmemT c m1
              rw [h3] at hsb
              obtain ⟨g0, hg0⟩ := hlive c.id (hidT c m1)
              have hlt := Reg.at_block (R.rg _ _ hg0) hsb
              rcases hb1 with ⟨h, _⟩ | ⟨h, _⟩
              · omega
              · exact h.1 _ _ hg0 hsb
          · rw [setLocs_not _ φ s (fun c hc => by
              obtain ⟨oc, h1, h2⟩ := List.mem_map.1 hc
              subst h2; exact m1 oc h1)] at hsb
            have hlt := Reg.at_block (R.rg _ _ l1) hsb
            rcases hb1 with ⟨h, _⟩ | ⟨h, _⟩
            · omega
            · exact h.1 _ _ l1 hsb
        have hids' : (((Lio ++ Lres).map (·.2)).map (·.id)).Nodup := by rw [List.map_map]; exact hids
        refine ⟨retVal rvs, _, rfl, R.many (w' := w') (Lio ++ Lres) hids ?_ ?_ ?_ ?_ ?_ hk.os hk.tape hk.output hk.size, ?_⟩
        · intro c hc
          obtain ⟨g', h1, h2, h3⟩ := hmemT c hc
          obtain ⟨h4, _⟩ := d2 _ _ h1
          rw [h2]
          exact ⟨h3.symm, h4⟩
        · intro c hc
          exact ⟨hfreshid c (hmemF c hc), fun b hb => hfb b (hblkOf c (hmemF c hc) b hb)⟩
        · intro c c' b h1 h2 h3 h4
          exact hsepF c c' b (hmemF c h1) (hmemF c' h2) h3 h4
        · intro b hlt hno
          refine hk.block b hlt fun hm => ?_
          obtain ⟨r, hr, h2⟩ := (hblks b).1 hm
          rw [← d1] at hr
          obtain ⟨p, hp, e⟩ := List.mem_map.1 hr
          refine hno ⟨p.1, p.2, φ p.1⟩ (List.mem_append_left _ (List.mem_map.2 ⟨p, hp, rfl⟩)) ?_
          rw [e]; exact h2
        · intro o c hc
          cases o with
          | true =>
            obtain ⟨g', h1, h2, h3⟩ := hmemT c hc
            obtain ⟨_, h4⟩ := d2 _ _ h1
            rw [h2, h3]
            exact Reg.at_mono (fun b o h5 h6 => ⟨hokA b h5, h6⟩) (fun _ _ => rfl) h4
          | false =>
            refine Reg.at_mono (fun b o h5 h6 => ⟨hokA b ?_, h6⟩) (fun _ _ => rfl) (c3 c (hmemF c hc)).1
            rcases h5 with h5 | ⟨h5, h6 | h6, h7⟩
            · exact .inl h5
            · exact .inr (.inl ⟨h5, h6, h7⟩)
            · exact .inr (.inr ⟨h6, h7⟩)
        · refine retAV_sound (resVs_sound (fun b o h5 h6 => ⟨hokA b ?_, h6⟩) S.res (S.fn x).1 n rvs rl hres (fun c hc => ?_))
          · rcases h5 with h5 | ⟨h5, h6 | h6, h7⟩
            · exact .inl h5
            · exact .inr (.inl ⟨h5, h6, h7⟩)
            · exact .inr (.inr ⟨h6, h7⟩)
          · have hm : (false, c) ∈ Lio ++ Lres := List.mem_append_right _ (List.mem_map.2 ⟨c, hc, rfl⟩)
            exact ⟨look_applyAll_mem _ _ false c hids hm, setLocs_mem _ φ c hids' (List.mem_map.2 ⟨_, hm, rfl⟩)⟩
    · cases h
  · cases h

end Go.Lift
/- The shape of a state at a loop's head. -/
namespace Go.Lift
open Go

/-- The steps of an address, what their numbers are left open. -/
inductive KS where
  | f
  | s
  | i
@[reducible] def pdt : List KS → Type → Type
  | [], T => T
  | .i :: k, T => Int × pdt k T
  | .f :: k, T => pdt k T
  | .s :: k, T => pdt k T
def splitP {T : Type} : (k : List KS) → pdt k T → List Step × T
  | [], x => ([], x)
  | .i :: k, x => (.idx x.1 :: (splitP k x.2).1, (splitP k x.2).2)
  | .f :: k, x => (.fst :: (splitP (T := T) k x).1, (splitP (T := T) k x).2)
  | .s :: k, x => (.snd :: (splitP (T := T) k x).1, (splitP (T := T) k x).2)
def joinP {T : Type} : (k : List KS) → List Step → T → Option (pdt k T)
  | [], p, z => match p with
    | [] => some z
    | _ => none
  | .i :: k, p, z => match p with
    | .idx i :: p => match joinP k p z with
      | some y => some (i, y)
      | none => none
    | _ => none
  | .f :: k, p, z => match p with
    | .fst :: p => joinP (T := T) k p z
    | _ => none
  | .s :: k, p, z => match p with
    | .snd :: p => joinP (T := T) k p z
    | _ => none
theorem joinP_split {T : Type} : ∀ (k : List KS) (p : List Step) (z : T) (x : pdt k T), joinP k p z = some x → splitP k x = (p, z)
  | [], p, z, x, h => by
    simp only [joinP] at h
    split at h
    · cases h; rfl
    · cases h
  | .i :: k, p, z, x, h => by
    simp only [joinP] at h
    split at h
    · split at h
      · rename_i hj
        cases h
        simp only [splitP, joinP_split k _ _ _ hj]
      · cases h
    · cases h
  | .f :: k, p, z, x, h => by
    simp only [joinP] at h
    split at h
    · have := joinP_split k _ _ _ h
      simp only [splitP, this]
    · cases h
  | .s :: k, p, z, x, h => by
    simp only [joinP] at h
    split at h
    · have := joinP_split k _ _ _ h
      simp only [splitP, this]
    · cases h
inductive Slot where
  | u
  | v (t : Ty)
  | sl (r : Nat)
  | addr (r : Nat)
  | nilsl
  | nilp
  | fn (f : FuncId) (rs : List Nat)
  | ap (r : Nat) (k : List KS)
inductive RSlot where
  | row (t : Ty)
  | box (t : Ty)
  | obox (t : Ty)
@[reducible] def tden : List Slot → Type
  | [] => Unit
  | .v t :: ss => t.den × tden ss
  | .u :: ss => tden ss
  | .sl _ :: ss => tden ss
  | .addr _ :: ss => tden ss
  | .nilsl :: ss => tden ss
  | .nilp :: ss => tden ss
  | .fn _ _ :: ss => tden ss
  | .ap _ k :: ss => pdt k (tden ss)
@[reducible] def gden : List (Nat × RSlot) → Type
  | [] => Unit
  | (_, .row t) :: ss => List t.den × gden ss
  | (_, .box t) :: ss => t.den × gden ss
  | (_, .obox t) :: ss => Option t.den × gden ss
def capsOf (rs : List Nat) : List SV := rs.map fun r => .addr r []
def absTm : (ss : List Slot) → tden ss → List AV
  | [], _ => []
  | .v t :: ss, x => .s (.val t x.1) :: absTm ss x.2
  | .u :: ss, x => .s .undef :: absTm ss x
  | .sl r :: ss, x => .s (.sl r) :: absTm ss x
  | .addr r :: ss, x => .s (.addr r []) :: absTm ss x
  | .nilsl :: ss, x => .s .nilsl :: absTm ss x
  | .nilp :: ss, x => .s .nilp :: absTm ss x
  | .fn f rs :: ss, x => .fn f (capsOf rs) :: absTm ss x
  | .ap r k :: ss, x => .s (.addr r (splitP (T := tden ss) k x).1) :: absTm ss (splitP (T := tden ss) k x).2
def absRg : (ss : List (Nat × RSlot)) → gden ss → Regs
  | [], _ => []
  | (r, .row t) :: ss, x => (r, .row t x.1) :: absRg ss x.2
  | (r, .box t) :: ss, x => (r, .box t x.1) :: absRg ss x.2
  | (r, .obox t) :: ss, x => (r, .obox t x.1) :: absRg ss x.2
def readCaps : List Nat → List SV → Bool
  | [], vs => match vs with
    | [] => true
    | _ => false
  | r :: rs, vs => match vs with
    | .addr r' [] :: vs => decide (r = r') && readCaps rs vs
    | _ => false
def readTm : (ss : List Slot) → List AV → Option (tden ss)
  | [], vs => match vs with
    | [] => some ()
    | _ => none
  | .v t :: ss, vs => match vs with
    | .s (.val t' x) :: vs => match castTy t' t x with
      | some y => match readTm ss vs with
        | some z => some (y, z)
        | none => none
      | none => none
    | _ => none
  | .u :: ss, vs => match vs with
    | .s .undef :: vs => readTm ss vs
    | _ => none
  | .sl r :: ss, vs => match vs with
    | .s (.sl r') :: vs => if r = r' then readTm ss vs else none
    | _ => none
  | .addr r :: ss, vs => match vs with
    | .s (.addr r' []) :: vs => if r = r' then readTm ss vs else none
    | _ => none
  | .nilsl :: ss, vs => match vs with
    | .s .nilsl :: vs => readTm ss vs
    | _ => none
  | .nilp :: ss, vs => match vs with
    | .s .nilp :: vs => readTm ss vs
    | _ => none
  | .fn f rs :: ss, vs => match vs with
    | .fn f' caps :: vs => if f = f' ∧ readCaps rs caps = true then readTm ss vs else none
    | _ => none
  | .ap r k :: ss, vs => match vs with
    | .s (.addr r' p) :: vs => if r = r' then match readTm ss vs with
      | some z => joinP (T := tden ss) k p z
      | none => none else none
    | _ => none
def readRg : (ss : List (Nat × RSlot)) → Regs → Option (gden ss)
  | [], vs => match vs with
    | [] => some ()
    | _ => none
  | (r, .row t) :: ss, vs => match vs with
    | (r', .row t' x) :: vs => if r = r' then match castTy (.ro t') (.ro t) x with
      | some y => match readRg ss vs with
        | some z => some (y, z)
        | none => none
      | none => none else none
    | _ => none
  | (r, .box t) :: ss, vs => match vs with
    | (r', .box t' x) :: vs => if r = r' then match castTy t' t x with
      | some y => match readRg ss vs with
        | some z => some (y, z)
        | none => none
      | none => none else none
    | _ => none
  | (r, .obox t) :: ss, vs => match vs with
    | (r', .obox t' x) :: vs => if r = r' then if h : t' = t then match readRg ss vs with
      | some z => some (h ▸ x, z)
      | none => none else none else none
    | _ => none
theorem readCaps_abs : ∀ {rs : List Nat} {vs : List SV}, readCaps rs vs = true → capsOf rs = vs
  | [], vs, h => by
    simp only [readCaps] at h
    split at h
    · rfl
    · cases h
  | r :: rs, vs, h => by
    simp only [readCaps] at h
    split at h
    · simp only [Bool.and_eq_true, decide_eq_true_eq] at h
      have := readCaps_abs h.2
      unfold capsOf at this ⊢
      rw [List.map_cons, h.1, this]
    · cases h
theorem readTm_abs : ∀ {ss : List Slot} {vs : List AV} {x : tden ss}, readTm ss vs = some x → absTm ss x = vs := by
  intro ss
  induction ss with
  | nil =>
    intro vs x h
    simp only [readTm] at h
    split at h
    · rfl
    · cases h
  | cons s ss ih =>
    intro vs x h
    cases s with
    | v t =>
      simp only [readTm] at h
      split at h
      · split at h
        · rename_i hc
          split at h
          · rename_i hr
            cases h
            obtain ⟨e1, e2⟩ := castTy_some hc
            subst e1
            subst e2
            simp only [absTm]
            rw [ih hr]
          · cases h
        · cases h
      · cases h
    | u => simp only [readTm] at h; split at h; · simp only [absTm]; rw [ih h]
           · cases h
    | nilsl => simp only [readTm] at h; split at h; · simp only [absTm]; rw [ih h]
               · cases h
    | nilp => simp only [readTm] at h; split at h; · simp only [absTm]; rw [ih h]
              · cases h
    | sl r =>
      simp only [readTm] at h
      split at h
      · split at h
        · rename_i e; subst e; simp only [absTm]; rw [ih h]
        · cases h
      · cases h
    | addr r =>
      simp only [readTm] at h
      split at h
      · split at h
        · rename_i e; subst e; simp only [absTm]; rw [ih h]
        · cases h
      · cases h
    | fn f rs =>
      simp only [readTm] at h
      split at h
      · split at h
        · rename_i e; simp only [absTm]; rw [ih h, e.1, readCaps_abs e.2]
        · cases h
      · cases h
    | ap r k =>
      simp only [readTm] at h
      split at h
      · split at h
        · rename_i e
          subst e
          split at h
          · rename_i hr
            have hj := joinP_split k _ _ _ h
            simp only [absTm, hj]
            rw [ih hr]
          · cases h
        · cases h
      · cases h
theorem readRg_abs : ∀ {ss : List (Nat × RSlot)} {vs : Regs} {x : gden ss}, readRg ss vs = some x → absRg ss x = vs := by
  intro ss
  induction ss with
  | nil =>
    intro vs x h
    simp only [readRg] at h
    split at h
    · rfl
    · cases h
  | cons s ss ih =>
    intro vs x h
    obtain ⟨r, s⟩ := s
    cases s with
    | row t =>
      simp only [readRg] at h
      split at h
      · split at h
        · rename_i e
          subst e
          split at h
          · rename_i hc
            split at h
            · rename_i hr
              cases h
              obtain ⟨e1, e2⟩ := castTy_some hc
              cases e1
              subst e2
              simp only [absRg]
              rw [ih hr]
            · cases h
          · cases h
        · cases h
      · cases h
    | box t =>
      simp only [readRg] at h
      split at h
      · split at h
        · rename_i e
          subst e
          split at h
          · rename_i hc
            split at h
            · rename_i hr
              cases h
              obtain ⟨e1, e2⟩ := castTy_some hc
              subst e1
              subst e2
              simp only [absRg]
              rw [ih hr]
            · cases h
          · cases h
        · cases h
      · cases h
    | obox t =>
      simp only [readRg] at h
      split at h
      · split at h
        · rename_i e
          subst e
          split at h
          · rename_i e2
            subst e2
            split at h
            · rename_i hr
              cases h
              simp only [absRg]
              rw [ih hr]
            · cases h
          · cases h
        · cases h
      · cases h

/-! At a head that may hold nothing, a box will do. -/
def SV.flatAt (r : Nat) : SV → Bool
  | .addr r' p => !(Nat.beq r' r) || (match p with
    | [] => true
    | _ => false)
  | _ => true
def AV.flatAt (r : Nat) : AV → Bool
  | .s x => x.flatAt r
  | .tup xs => xs.all (SV.flatAt r)
  | .fn _ xs => xs.all (SV.flatAt r)
  | .gd _ _ _ x => x.flatAt r
def wkOne (tm : List AV) (s : RSlot) (v : Nat × Reg) : Nat × Reg :=
  match s with
  | .obox _ => match v with
    | (r, .box t x) => if tm.all (AV.flatAt r) = true then (r, .obox t (some x)) else (r, .box t x)
    | v => v
  | _ => v
def wkRg (tm : List AV) : List (Nat × RSlot) → Regs → Regs
  | [], vs => vs
  | s :: ss, vs => match vs with
    | [] => []
    | v :: vs => wkOne tm s.2 v :: wkRg tm ss vs
def Wk (tm : List AV) (rs rs' : Regs) : Prop := ∀ r, look rs' r = look rs r ∨ ∃ t x, look rs r = some (.box t x) ∧ look rs' r = some (.obox t (some x)) ∧ tm.all (AV.flatAt r) = true
theorem wkOne_wk (tm : List AV) (s : RSlot) (k : Nat) (g : Reg) : ∃ g', wkOne tm s (k, g) = (k, g') ∧ (g' = g ∨ ∃ t x, g = .box t x ∧ g' = .obox t (some x) ∧ tm.all (AV.flatAt k) = true) := by
  cases s with
  | row t => exact ⟨g, rfl, .inl rfl⟩
  | box t => exact ⟨g, rfl, .inl rfl⟩
  | obox t =>
    cases g with
    | row t xs => exact ⟨_, rfl, .inl rfl⟩
    | obox t xs => exact ⟨_, rfl, .inl rfl⟩
    | box t x =>
      unfold wkOne
      simp only
      split
      · rename_i h; exact ⟨_, rfl, .inr ⟨t, x, rfl, rfl, h⟩⟩
      · exact ⟨_, rfl, .inl rfl⟩
theorem wkRg_wk (tm : List AV) : ∀ (ss : List (Nat × RSlot)) (rs : Regs), Wk tm rs (wkRg tm ss rs)
  | [], rs => fun r => .inl rfl
  | s :: ss, [] => fun r => .inl rfl
  | s :: ss, (k, g) :: rs => fun r => by
    obtain ⟨g', e, h⟩ := wkOne_wk tm s.2 k g
    rw [wkRg, e]
    simp only [look]
    by_cases hk : k = r
    · subst hk
      rw [if_pos rfl, if_pos rfl]
      rcases h with rfl | ⟨t, x, rfl, rfl, hf⟩
      · exact .inl rfl
      · exact .inr ⟨t, x, rfl, rfl, hf⟩
    · rw [if_neg hk, if_neg hk]
      exact wkRg_wk tm ss rs r
theorem Wk.dom {tm : List AV} {rs rs' : Regs} (h : Wk tm rs rs') {r : Nat} {g : Reg} (hg : look rs' r = some g) : ∃ g0, look rs r = some g0 ∧ (g0 = g ∨ ∃ t x, g0 = .box t x ∧ g = .obox t (some x) ∧ tm.all (AV.flatAt r) = true) := by
  rcases h r with e | ⟨t, x, e1, e2, e3⟩
  · exact ⟨g, e ▸ hg, .inl rfl⟩
  · rw [e2] at hg; cases hg; exact ⟨_, e1, .inr ⟨t, x, rfl, rfl, e3⟩⟩
theorem Wk.none {tm : List AV} {rs rs' : Regs} (h : Wk tm rs rs') {r : Nat} (hg : look rs r = none) : look rs' r = none := by
  rcases h r with e | ⟨t, x, e1, e2, e3⟩
  · rw [e, hg]
  · rw [hg] at e1; cases e1
theorem Wk.some_ {tm : List AV} {rs rs' : Regs} (h : Wk tm rs rs') {r : Nat} {g : Reg} (hg : look rs r = some g) : ∃ g', look rs' r = some g' := by
  rcases h r with e | ⟨t, x, e1, e2, e3⟩
  · exact ⟨g, e.trans hg⟩
  · exact ⟨_, e2⟩
theorem Wk.ok {tm : List AV} {rs rs' : Regs} (h : Wk tm rs rs') (φ : Phi) : okOf rs' φ = okOf rs φ := by
  funext b
  refine propext ⟨fun ⟨h1, h2⟩ => ⟨fun r g hg => ?_, h2⟩, fun ⟨h1, h2⟩ => ⟨fun r g hg => ?_, h2⟩⟩
  · obtain ⟨g', hg'⟩ := h.some_ hg
    exact h1 r g' hg'
  · obtain ⟨g', hg', _⟩ := h.dom hg
    exact h1 r g' hg'
theorem SVRel.wk {tm : List AV} {rs rs' : Regs} (h : Wk tm rs rs') {φ : Phi} {ok : Nat → Prop} {w : World} {x : SV} {v : Value} (hf : ∀ r, tm.all (AV.flatAt r) = true → x.flatAt r = true) (hv : SVRel rs φ ok w x v) : SVRel rs' φ ok w x v := by
  cases x with
  | undef => exact hv
  | val t x => exact hv
  | nilsl => exact hv
  | nilp => exact hv
  | valn t x => exact hv
  | nilq e neg => exact hv
  | ra t x => exact hv
  | sl r =>
    intro t xs hg
    obtain ⟨g0, h1, h2⟩ := h.dom hg
    rcases h2 with rfl | ⟨t, x, rfl, e, _⟩
    · exact hv _ _ h1
    · cases e
  | addr r p =>
    intro g hg
    obtain ⟨g0, h1, h2⟩ := h.dom hg
    rcases h2 with rfl | ⟨t, x, rfl, rfl, e⟩
    · exact hv _ h1
    · obtain ⟨b, e1, e2, e3⟩ := hv _ h1
      have hp := hf r e
      simp only [SV.flatAt, Nat.beq_refl, Bool.not_true, Bool.false_or] at hp
      split at hp
      · exact ⟨rfl, by rw [e1]; rfl, by rw [e3, e1]; simp [poff]⟩
      · cases hp
theorem AVRel.wk {tm : List AV} {rs rs' : Regs} (h : Wk tm rs rs') {φ : Phi} {ok : Nat → Prop} {w : World} {x : AV} {v : Value} (hx : x ∈ tm) (hv : AVRel rs φ ok w x v) : AVRel rs' φ ok w x v := by
  have hf : ∀ r, tm.all (AV.flatAt r) = true → x.flatAt r = true := fun r hr => List.all_eq_true.1 hr x hx
  cases x with
  | s x => exact SVRel.wk h hf hv
  | tup xs =>
    obtain ⟨vs, rfl, ha⟩ := hv
    exact ⟨vs, rfl, ha.imp fun a b hm hr => SVRel.wk h (fun r hr => List.all_eq_true.1 (hf r hr) a hm) hr⟩
  | fn f xs =>
    obtain ⟨vs, rfl, ha⟩ := hv
    exact ⟨vs, rfl, ha.imp fun a b hm hr => SVRel.wk h (fun r hr => List.all_eq_true.1 (hf r hr) a hm) hr⟩
  | gd k b want x => exact ⟨fun e => SVRel.wk h hf (hv.1 e), hv.2⟩
theorem RelF.wk {cx : Cx} {φ : Phi} {tm : List AV} {rs rs' : Regs} {n : Nat} {a : Act} {w : World} (h : Wk tm rs rs') (R : RelF cx φ ⟨tm, rs, n⟩ a w) : RelF cx φ ⟨tm, rs', n⟩ a w := by
  refine ⟨R.size, R.df, fun i av hi => ?_, fun r g hg => ?_, fun r r' g g' b hg hg' hb hb' => ?_, fun r g b hg hb => ?_, fun r l hr hs => ?_, R.kp, R.hB, R.bs⟩
  · have := AVRel.wk h (List.mem_of_getElem? hi) (R.tm i av hi)
    show AVRel rs' φ (okOf rs' φ) w av _
    rw [h.ok φ]; exact this
  · show g.at (okOf rs' φ) w (φ r)
    rw [h.ok φ]
    obtain ⟨g0, h1, h2⟩ := h.dom hg
    have := R.rg r g0 h1
    rcases h2 with rfl | ⟨t, x, rfl, rfl, _⟩
    · exact this
    · exact this
  · obtain ⟨_, h1, _⟩ := h.dom hg
    obtain ⟨_, h2, _⟩ := h.dom hg'
    exact R.sep r r' _ _ b h1 h2 hb hb'
  · obtain ⟨_, h1, _⟩ := h.dom hg
    exact R.fr r _ b h1 hb
  · obtain ⟨g, hg⟩ := Option.isSome_iff_exists.1 hs
    obtain ⟨_, h1, _⟩ := h.dom hg
    exact R.io r l hr (by show (look rs r).isSome = true; rw [h1]; rfl)

inductive AExit where
  | normal
  | exit (id : Nat)
  | ret
/-- A loop told: the shape at its head, what must hold there, what it comes to. -/
structure Loop where
  ts : List Slot
  rs : List (Nat × RSlot)
  next : Nat
  pre : tden ts → gden rs → Prop
  m : tden ts → gden rs → Nat
  out : tden ts → gden rs → (AExit → St → Prop) → Prop
def Loop.abs (L : Loop) (x : tden L.ts) (y : gden L.rs) : St := ⟨absTm L.ts x, absRg L.rs y, L.next⟩
def wkSt (L : Loop) (st : St) : St := ⟨st.tmps, wkRg st.tmps L.rs st.regs, st.next⟩
def Loop.enter (L : Loop) (st : St) (K : AExit → St → Prop) : Prop :=
  match st with
  | ⟨tm, rs, n⟩ => match readTm L.ts tm with
    | some x => match readRg L.rs (wkRg tm L.rs rs) with
      | some y => if n = L.next then L.pre x y ∧ L.out x y K else False
      | none => False
    | none => False
theorem Loop.enter_spec {L : Loop} {st : St} {K : AExit → St → Prop} (h : L.enter st K) : ∃ x y, wkSt L st = L.abs x y ∧ L.pre x y ∧ L.out x y K := by
  obtain ⟨tm, rs, n⟩ := st
  simp only [Loop.enter] at h
  split at h
  · rename_i x hx
    split at h
    · rename_i y hy
      split at h
      · rename_i e
        exact ⟨x, y, by simp only [wkSt, Loop.abs, readTm_abs hx, readRg_abs hy, e], h⟩
      · exact h.elim
    · exact h.elim
  · exact h.elim
/-- The same at the end of a round: it has come down. -/
def Loop.again (L : Loop) (m0 : Nat) (st : St) (K : AExit → St → Prop) : Prop :=
  match st with
  | ⟨tm, rs, n⟩ => match readTm L.ts tm with
    | some x => match readRg L.rs (wkRg tm L.rs rs) with
      | some y => if n = L.next then L.pre x y ∧ L.m x y < m0 ∧ L.out x y K else False
      | none => False
    | none => False
theorem Loop.again_spec {L : Loop} {m0 : Nat} {st : St} {K : AExit → St → Prop} (h : L.again m0 st K) : ∃ x y, wkSt L st = L.abs x y ∧ L.pre x y ∧ L.m x y < m0 ∧ L.out x y K := by
  obtain ⟨tm, rs, n⟩ := st
  simp only [Loop.again] at h
  split at h
  · rename_i x hx
    split at h
    · rename_i y hy
      split at h
      · rename_i e
        exact ⟨x, y, by simp only [wkSt, Loop.abs, readTm_abs hx, readRg_abs hy, e], h⟩
      · exact h.elim
    · exact h.elim
  · exact h.elim

end Go.Lift
