/- Lines for the functions of this seat; merged from texts of their own. -/
import Derived.Test.YtppemehkbnbjlaaLB
import Derived.Laws.Pointers
set_option linter.unusedVariables false
set_option linter.unusedSimpArgs false
/- One operation (but for the calls of functions), abstract, and that it tells what the machine does. -/
namespace Go.Lift
open Go

def constAV : Value → Option SV
  | .int k n => some (vI k n)
  | .bool b => some (vB b)
  | .string s => some (vS s)
  | .slice none 0 0 => some .nilsl
  | .pointer none => some .nilp
  | _ => none
theorem constAV_sound {rs : Regs} {φ : Phi} {ok : Nat → Prop} {w : World} {V : Value} {v : SV} (h : constAV V = some v) : SVRel rs φ ok w v V := by
  unfold constAV at h
  split at h <;> cases h
  · exact VRel.of_int _ _ _ _
  · exact VRel.of_bool _ _ _
  · exact VRel.of_str _ _ _
  · rfl
  · rfl

def opnd (tm : List AV) : Operand → Option AV
  | .tmp t => tm[t]?
  | .const v => (constAV v).map AV.s
  | .func f => some (.fn f [])
  | .global _ => none
theorem opnd_sound {cx : Cx} {φ : Phi} {st : St} {a : Act} {w : World} (R : RelF cx φ st a w) {x : Operand} {v : AV} (h : opnd st.tmps x = some v) : AVRel st.regs φ (okOf st.regs φ) w v (a.eval x) := by
  cases x with
  | tmp t => exact R.tm t v h
  | const c =>
    simp only [opnd, Option.map_eq_some_iff] at h
    obtain ⟨s, hs, rfl⟩ := h
    exact constAV_sound hs
  | global g => simp [opnd] at h
  | func f => simp only [opnd, Option.some.injEq] at h; subst h; exact ⟨#[], rfl, .nil⟩

def mapParts (arg : Operand → Option SV) : List (Nat × Operand) → Option (List (Nat × SV))
  | [] => some []
  | (i, x) :: rest => match arg x, mapParts arg rest with
    | some v, some vs => some ((i, v) :: vs)
    | _, _ => none
theorem mapParts_sound {arg : Operand → Option SV} {ev : Operand → Value} {S : SV → Value → Prop} (h : ∀ x v, arg x = some v → S v (ev x)) : ∀ (ps : List (Nat × Operand)) (vs : List (Nat × SV)), mapParts arg ps = some vs →
    Parts2 S vs (ps.map fun p => (p.1, ev p.2))
  | [], vs, hm => by simp only [mapParts, Option.some.injEq] at hm; subst hm; exact .nil
  | (i, x) :: rest, vs, hm => by
    simp only [mapParts] at hm
    split at hm
    · rename_i v vs' h1 h2
      cases hm
      exact .cons (h _ _ h1) (mapParts_sound h rest vs' h2)
    · cases hm
def mapArgs (arg : Operand → Option SV) : List Operand → Option (List SV)
  | [] => some []
  | x :: rest => match arg x, mapArgs arg rest with
    | some v, some vs => some (v :: vs)
    | _, _ => none
theorem mapArgs_sound {arg : Operand → Option SV} {ev : Operand → Value} {S : SV → Value → Prop} (h : ∀ x v, arg x = some v → S v (ev x)) : ∀ (ps : List Operand) (vs : List SV), mapArgs arg ps = some vs → All2 S vs (ps.map ev)
  | [], vs, hm => by simp only [mapArgs, Option.some.injEq] at hm; subst hm; exact .nil
  | x :: rest, vs, hm => by
    simp only [mapArgs] at hm
    split at hm
    · rename_i v vs' h1 h2
      cases hm
      exact .cons (h _ _ h1) (mapArgs_sound h rest vs' h2)
    · cases hm

abbrev Out := List Prop × AV × Eff

def isPtr (P : Program) (t : TypeId) : Bool :=
  match P.underlying t with
  | some (.pointer _) => true
  | _ => false
def nilV (P : Program) (rs : Regs) (op : BinOp) (t : TypeId) (x y : SV) : Option SV :=
  match op, x, y with
  | .eql, .addr r [], .nilp => if isPtr P t = true then (match look rs r with
      | some (.obox _ o _) => some (vB o.isNone)
      | some (.box _ _ _) => some (vB false)
      | _ => none) else none
  | .neq, .addr r [], .nilp => if isPtr P t = true then (match look rs r with
      | some (.obox _ o _) => some (vB (!o.isNone))
      | some (.box _ _ _) => some (vB true)
      | _ => none) else none
  | .eql, .val τ a, .val τ' b => if eqAgg P t τ = true then (castTy τ' τ b).map fun b => vB (eqD τ a b) else none
  | .neq, .val τ a, .val τ' b => if eqAgg P t τ = true then (castTy τ' τ b).map fun b => vB (!eqD τ a b) else none
  | _, _, _ => none

def unV (op : UnOp) (x : SV) : Option SV :=
  match op, x with
  | .not, .val .bool b => some (vB (!b))
  | .neg, .val (.int k) n => some (vI k (k.wrap (0 - n)))
  | .xor, .val (.int k) n => some (vI k (bits .xor k (if k.signed then -1 else k.max) n))
  | _, _ => none

def boolT (P : Program) (t : TypeId) (x : SV) : Bool :=
  match x with
  | .val .bool _ => match P.underlying t with
    | some .bool => true
    | _ => false
  | _ => true
theorem boolT_spec {P : Program} {t : TypeId} {x : SV} (h : boolT P t x = true) : ∀ b, x = .val .bool b → P.underlying t = some .bool := by
  intro b hb
  subst hb
  unfold boolT at h
  split at h
  · split at h
    · assumption
    · cases h
  · rename_i hne; exact (hne _ rfl).elim

def o3 (r : Option (List Prop × SV)) : Option Out := r.map fun p => (p.1, .s p.2, [])
def o1 (r : Option SV) : Option Out := r.map fun v => ([], .s v, [])
def oe (r : Option (SV × Eff)) : Option Out := r.map fun p => ([], .s p.1, p.2)
def of3 (r : Option (List Prop × SV × Eff)) : Option Out := r.map fun p => (p.1, .s p.2.1, p.2.2)

def optArg (arg : Operand → Option SV) : Option Operand → Option (Option SV)
  | none => some none
  | some x => (arg x).map some

def core (vw gd : Bool) (P : Program) (rs : Regs) (n : Nat) (arg : Operand → Option SV) (argA : Operand → Option AV) (o : Oper) : Option Out :=
  match o.op with
  | .move x => (argA x).map fun v => ([], v, [])
  | .assign x => (argA x).map fun v => ([], v, [])
  | .alloc t => oe (allocV P t n)
  | .box _ x => match arg x with
    | some x => oe (boxV x n)
    | none => none
  | .build t parts => match mapParts arg parts.toList with
    | some vs => oe (buildV P rs t vs)
    | none => none
  | .buildSlice t len parts => match mapParts arg parts.toList with
    | some vs => oe (buildSliceV P rs t len vs n)
    | none => none
  | .load t x => match arg x with
    | some x => o3 (loadV P rs t x)
    | none => none
  | .store t x v => match arg x, arg v with
    | some x, some v => ((storeV P rs t x v).or (storeT P rs t x v)).map fun e => (e.1, .s .undef, e.2)
    | _, _ => none
  | .nilCheck x => match arg x with
    | some (.addr r p) => match look rs r with
      | some (.obox τ o H) => match p with
        | [] => some ([o.isSome = true], .s (.addr r []), if gd = true then [] else [.set (some r) r (.box τ (o.getD τ.dflt) H)])
        | p => some ([], .s (.addr r p), [])
      | some (.mp _ _ _ _) => none
      | some _ => some ([], .s (.addr r p), [])
      | none => none
    | some (.ra t x) => some ([], .s (.ra t x), [])
    | _ => none
  | .binOp op t x y _ => match arg x, arg y with
    | some x, some y => match nilV P rs op t x y with
      | some v => some ([], .s v, [])
      | none => if boolT P t x = true then o3 (binV op x y) else none
    | _, _ => none
  | .unOp op _ x => match arg x with
    | some x => o1 (unV op x)
    | none => none
  | .convert src dst x => match arg x with
    | some x => match convV P src dst x with
      | some v => some ([], .s v, [])
      | none => match strOfV P rs src dst x with
        | some v => some ([], .s v, [])
        | none => oe (bytesV P src dst x n)
    | none => none
  | .makeFunc (.func f) first captured => if first.toList.isEmpty = true then (mapArgs arg captured.toList).map fun vs => ([], .fn f vs, []) else none
  | .makeSlice t l c => match arg l, arg c with
    | some l, some c => of3 (makeV P t l c n)
    | _, _ => none
  | .slice t x lo hi mx => match arg x, optArg arg lo, optArg arg hi, optArg arg mx with
    | some x, some lo, some hi, some mx => of3 (sliceV vw P rs t x lo hi mx n)
    | _, _, _, _ => none
  | .fieldAddr t x k => match arg x with
    | some x => of3 (fieldA gd P rs t x k)
    | none => none
  | .field t x k => match arg x with
    | some x => match fieldV P t x k with
      | some v => some ([], .s v, [])
      | none => o1 (fieldN P rs t x k)
    | none => none
  | .indexAddr t x i => match arg x, arg i with
    | some x, some i => o3 (indexA P rs t x i)
    | _, _ => none
  | .index t x i => match arg x, arg i with
    | some x, some i => o3 (indexV P t x i)
    | _, _ => none
  | .extract x i => match argA x with
    | some (.tup vs) => (vs[i]?).map fun v => ([], .s v, [])
    | _ => none
  | .panic _ => some ([False], .s .undef, [])
  | .makeInterface t _ => match P.underlying t with
    | some (.interface _) => none
    | some _ => some ([], .s .undef, [])
    | none => none
  | .makeMap t r => match optArg arg r with
    | some r => oe ((makeMapV P t r n).or (makeMapK P t r n))
    | none => none
  | .lookup t x i ok => match arg x, arg i with
    | some x, some i => ((lookupV P rs t x i ok).or (lookupK P rs t x i ok)).map fun p => (p.1, p.2, [])
    | _, _ => none
  | .mapUpdate t x i y => match arg x, arg i, arg y with
    | some x, some i, some y => ((updV P rs t x i y).or (updK P rs t x i y)).map fun e => (e.1, .s .undef, e.2)
    | _, _, _ => none
  | .insert t x i y => match arg x, arg i, arg y with
    | some x, some i, some y => ((updV P rs t x i y).or (updK P rs t x i y)).map fun e => (e.1, .s .undef, e.2)
    | _, _, _ => none
  | .call { callee := .builtin b, args := args, argTypes := ts } => match b with
    | .len => match args.toList, ts.toList with
      | [x], [t] => match arg x with
        | some x => o1 (lenV P rs t x)
        | none => none
      | _, _ => none
    | .cap => match args.toList, ts.toList with
      | [x], [t] => match arg x with
        | some x => o1 (capV P t x)
        | none => none
      | _, _ => none
    | .append => match args.toList, ts.toList with
      | [s, x], [sT, xT] => match arg s, arg x with
        | some s, some x => of3 (appendV P rs sT xT s x n)
        | _, _ => none
      | _, _ => none
    | .min => match mapArgs arg args.toList with
      | some vs => o1 (minV' false vs)
      | none => none
    | .max => match mapArgs arg args.toList with
      | some vs => o1 (minV' true vs)
      | none => none
    | .delete => match args.toList, ts.toList with
      | [x, i], [t, _] => match arg x, arg i with
        | some x, some i => of3 (delV P rs t x i)
        | _, _ => none
      | _, _ => none
    | _ => none
  | _ => none

/-- What an operation that calls no function comes to. -/
def Tells (cx : Cx) (st : St) (a : Act) (w : World) (o : Oper) (av : AV) (e : Eff) : Prop :=
  ∃ r V w' φ', (execOp a.eval o).run cx.P w = .ok r w' ∧ (r = .value V ∨ (r = .skip ∧ V = undef)) ∧ RelF cx φ' { st with regs := e.app st.regs } a w' ∧
    AVRel (e.app st.regs) φ' (okOf (e.app st.regs) φ') w' av V

theorem tells_pure {cx : Cx} {φ : Phi} {st : St} {a : Act} {w : World} (R : RelF cx φ st a w) {o : Oper} {v : SV} {s : Sem Value} (hs : execOp a.eval o = (do pure (.value (← s))))
    (h : ∃ V, s.run cx.P w = .ok V w ∧ SVRel st.regs φ (okOf st.regs φ) w v V) : Tells cx st a w o (.s v) [] := by
  obtain ⟨V, h1, h2⟩ := h
  exact ⟨.value V, V, w, φ, by rw [hs]; simp [h1], .inl rfl, R, h2⟩
theorem tells_eff {cx : Cx} {st : St} {a : Act} {w : World} {o : Oper} {v : SV} {e : Eff} {s : Sem Value} (hs : execOp a.eval o = (do pure (.value (← s))))
    (h : ∃ V w' φ', s.run cx.P w = .ok V w' ∧ RelF cx φ' { st with regs := e.app st.regs } a w' ∧ SVRel (e.app st.regs) φ' (okOf (e.app st.regs) φ') w' v V) : Tells cx st a w o (.s v) e := by
  obtain ⟨V, w', φ', h1, h2, h3⟩ := h
  exact ⟨.value V, V, w', φ', by rw [hs]; simp [h1], .inl rfl, h2, h3⟩

theorem unV_sound {P : Program} {rs : Regs} {φ : Phi} {ok : Nat → Prop} {w : World} {op : UnOp} {x v : SV} {X : Value} (h : unV op x = some v) (hx : SVRel rs φ ok w x X) :
    ∃ V, (Op.unary op X).run P w = .ok V w ∧ SVRel rs φ ok w v V := by
  unfold unV at h
  split at h <;> cases h
  · have eX := VRel.bool_eq hx
    subst eX
    exact ⟨_, by simp [Op.unary], VRel.of_bool _ _ _⟩
  · have eX := VRel.int_eq hx
    subst eX
    exact ⟨_, by simp [Op.unary, Op.intArith], VRel.of_int _ _ _ _⟩
  · have eX := VRel.int_eq hx
    subst eX
    exact ⟨_, by simp [Op.unary, intBits_xor], VRel.of_int _ _ _ _⟩

theorem isPtr_spec {P : Program} {t : TypeId} (h : isPtr P t = true) : P.underlying t = some (.pointer (P.pointee t)) := by
  unfold isPtr at h
  split at h
  · rename_i e he; simp [Program.pointee, he]
  · cases h
theorem nilV_sound {cx : Cx} {φ : Phi} {st : St} {a : Act} {w : World} (R : RelF cx φ st a w) {op : BinOp} {t : TypeId} {x y v : SV} {X Y : Value} (xo yo : Operand)
    (h : nilV cx.P st.regs op t x y = some v) (hx : SVRel st.regs φ (okOf st.regs φ) w x X) (hy : SVRel st.regs φ (okOf st.regs φ) w y Y) :
    ∃ V, (do eqGuard op t xo yo X Y; binOp op t X Y : Sem Value).run cx.P w = .ok V w ∧ SVRel st.regs φ (okOf st.regs φ) w v V := by
  have key : ∀ (r : Nat) (p : Option Addr) (g : Reg), isPtr cx.P t = true → Y = .pointer none → X = .pointer p →
      (∃ V, (do eqGuard .eql t xo yo X Y; binOp .eql t X Y : Sem Value).run cx.P w = .ok V w ∧ V = .bool p.isNone) ∧
      (∃ V, (do eqGuard .neq t xo yo X Y; binOp .neq t X Y : Sem Value).run cx.P w = .ok V w ∧ V = .bool (!p.isNone)) := by
    intro r p g hp hY hX
    subst hY; subst hX
    have := isPtr_spec hp
    refine ⟨⟨_, ?_, rfl⟩, ⟨_, ?_, rfl⟩⟩
    · have h1 := run_equal_pointer_nil (P := cx.P) (w := w) t p this
      simp [eqGuard, binOp, h1]
    · have h1 := run_equal_pointer_nil (P := cx.P) (w := w) t p this
      simp [eqGuard, binOp, h1]
  unfold nilV at h
  split at h
  · rename_i r
    split at h
    · rename_i hp
      split at h
      · rename_i τ o H hl
        cases h
        obtain ⟨h2, h3⟩ := obox_root (hx _ hl)
        obtain ⟨⟨V, e1, e2⟩, _⟩ := key r _ (.obox τ o H) hp hy h3
        refine ⟨V, e1, ?_⟩
        rw [e2]
        have : (Option.map (fun b => (⟨b, 0, none⟩ : Addr)) (φ r).blk).isNone = o.isNone := by
          cases hb : (φ r).blk <;> cases o <;> simp [hb] at h2 ⊢
        rw [this]
        exact VRel.of_bool _ _ _
      · rename_i τ y' H hl
        cases h
        obtain ⟨b, h1, h2, h3⟩ := hx _ hl
        obtain ⟨⟨V, e1, e2⟩, _⟩ := key r _ (.box τ y' H) hp hy h3
        exact ⟨V, e1, by rw [e2]; exact VRel.of_bool _ _ _⟩
      · cases h
    · cases h
  · rename_i r
    split at h
    · rename_i hp
      split at h
      · rename_i τ o H hl
        cases h
        obtain ⟨h2, h3⟩ := obox_root (hx _ hl)
        obtain ⟨_, ⟨V, e1, e2⟩⟩ := key r _ (.obox τ o H) hp hy h3
        refine ⟨V, e1, ?_⟩
        rw [e2]
        have : (Option.map (fun b => (⟨b, 0, none⟩ : Addr)) (φ r).blk).isNone = o.isNone := by
          cases hb : (φ r).blk <;> cases o <;> simp [hb] at h2 ⊢
        rw [this]
        exact VRel.of_bool _ _ _
      · rename_i τ y' H hl
        cases h
        obtain ⟨b, h1, h2, h3⟩ := hx _ hl
        obtain ⟨_, ⟨V, e1, e2⟩⟩ := key r _ (.box τ y' H) hp hy h3
        exact ⟨V, e1, by rw [e2]; exact VRel.of_bool _ _ _⟩
      · cases h
    · cases h
  · rename_i τ a0 τ' b0
    split at h
    · rename_i he
      rw [Option.map_eq_some_iff] at h
      obtain ⟨b1, hb, e⟩ := h
      cases e
      obtain ⟨e1, e2⟩ := castTy_some hb
      subst e1; subst e2
      exact ⟨_, (eqAgg_run xo yo he hx hy).1, VRel.of_bool _ _ _⟩
    · cases h
  · rename_i τ a0 τ' b0
    split at h
    · rename_i he
      rw [Option.map_eq_some_iff] at h
      obtain ⟨b1, hb, e⟩ := h
      cases e
      obtain ⟨e1, e2⟩ := castTy_some hb
      subst e1; subst e2
      exact ⟨_, (eqAgg_run xo yo he hx hy).2, VRel.of_bool _ _ _⟩
    · cases h
  · cases h

end Go.Lift
/- One operation: soundness. -/
namespace Go.Lift
open Go

set_option maxHeartbeats 4000000 in
theorem core_sound {vw gd : Bool} {cx : Cx} {φ : Phi} {st : St} {a : Act} {w : World} (R : RelF cx φ st a w) {n : Nat} (hf : FreshN cx st n) {arg : Operand → Option SV} {argA : Operand → Option AV} {o : Oper} {vc : List Prop} {av : AV} {e : Eff}
    (h : core vw gd cx.P st.regs n arg argA o = some (vc, av, e)) (hvc : ∀ p ∈ vc, p)
    (harg : ∀ x v, arg x = some v → SVRel st.regs φ (okOf st.regs φ) w v (a.eval x)) (hargA : ∀ x v, argA x = some v → AVRel st.regs φ (okOf st.regs φ) w v (a.eval x)) : Tells cx st a w o av e := by
  unfold core at h
  split at h
  · rename_i x ho
    rw [Option.map_eq_some_iff] at h
    obtain ⟨v, hv, e1⟩ := h
    cases e1
    exact ⟨.value (a.eval x), a.eval x, w, φ, by simp [execOp, ho], .inl rfl, R, hargA _ _ hv⟩
  · rename_i x ho
    rw [Option.map_eq_some_iff] at h
    obtain ⟨v, hv, e1⟩ := h
    cases e1
    exact ⟨.value (a.eval x), a.eval x, w, φ, by simp [execOp, ho], .inl rfl, R, hargA _ _ hv⟩
  · rename_i t ho
    simp only [oe, Option.map_eq_some_iff] at h
    obtain ⟨⟨v, e0⟩, hv, e1⟩ := h
    cases e1
    exact tells_eff (s := Instr.alloc t true (.tuple #[])) (by simp [execOp, ho]) (allocV_sound R hf hv)
  · rename_i t x ho
    split at h
    · rename_i x' hx
      simp only [oe, Option.map_eq_some_iff] at h
      obtain ⟨⟨v, e0⟩, hv, e1⟩ := h
      cases e1
      exact tells_eff (s := Instr.box t (a.eval x)) (by simp [execOp, ho]) (boxV_sound R hf hv (harg _ _ hx))
    · cases h
  · rename_i t parts ho
    split at h
    · rename_i vs hvs
      simp only [oe, Option.map_eq_some_iff] at h
      obtain ⟨⟨v, e0⟩, hv, e1⟩ := h
      cases e1
      have hp := mapParts_sound harg _ _ hvs
      obtain ⟨V, h1, h2, h3⟩ := buildV_sound R (Parts := parts.map fun p => (p.1, a.eval p.2)) hv (by simpa using hp)
      exact tells_eff (s := Instr.build t (parts.map fun p => (p.1, a.eval p.2))) (by simp [execOp, ho]) ⟨V, w, φ, h1, h2, h3⟩
    · cases h
  · rename_i t len parts ho
    split at h
    · rename_i vs hvs
      simp only [oe, Option.map_eq_some_iff] at h
      obtain ⟨⟨v, e0⟩, hv, e1⟩ := h
      cases e1
      have hp := mapParts_sound harg _ _ hvs
      exact tells_eff (s := Instr.buildSlice t len (parts.map fun p => (p.1, a.eval p.2))) (by simp [execOp, ho])
        (buildSliceV_sound R hf (Parts := parts.map fun p => (p.1, a.eval p.2)) hv (by simpa using hp))
    · cases h
  · rename_i t x ho
    split at h
    · rename_i x' hx
      simp only [o3, Option.map_eq_some_iff] at h
      obtain ⟨⟨vc', v⟩, hv, e1⟩ := h
      cases e1
      exact tells_pure R (s := Instr.loadAt t (a.eval x)) (by simp [execOp, ho]) (loadV_sound R hv hvc (harg _ _ hx))
    · cases h
  · rename_i t x y ho
    split at h
    · rename_i x' y' hx hy
      rw [Option.map_eq_some_iff] at h
      obtain ⟨⟨vc', e0⟩, hv, e1⟩ := h
      cases e1
      obtain ⟨w', φ', h1, h2⟩ := (Option.or_eq_some_iff.1 hv).elim (fun hv => storeV_sound R hv hvc (harg _ _ hx) (harg _ _ hy)) (fun hv => storeT_sound R hv.2 (harg _ _ hx) (harg _ _ hy))
      exact ⟨.skip, undef, w', φ', by simp [execOp, ho, h1], .inr ⟨rfl, rfl⟩, h2, trivial⟩
    · cases h
  · rename_i x ho
    split at h
    · rename_i r p hx
      have hX := harg _ _ hx
      split at h
      · rename_i τ o' H hl
        split at h
        · cases h
          have hs : o'.isSome = true := hvc _ (by simp)
          obtain ⟨g2, g3⟩ := obox_root (hX _ hl)
          rw [hs] at g2
          obtain ⟨b, hb⟩ := Option.isSome_iff_exists.1 g2
          rw [hb] at g3
          have g3' : a.eval x = .pointer (some ⟨b, 0, none⟩) := g3
          cases gd with
          | true => exact ⟨.value (a.eval x), a.eval x, w, φ, by simp [execOp, ho, g3'], .inl rfl, R, hX⟩
          | false =>
          refine ⟨.value (a.eval x), a.eval x, w, φ, by simp [execOp, ho, g3'], .inl rfl, R.open hl hs, ?_⟩
          intro g hg
          have hg' : look (upd (without st.regs (some r)) r (some (.box τ (o'.getD τ.dflt) H))) r = some g := hg
          rw [look_upd, if_pos rfl] at hg'
          cases hg'
          exact ⟨b, hb, by simp [pok], by rw [g3']; simp [poff]⟩
        · rename_i p hne
          cases h
          rcases hX _ hl with ⟨e0, _⟩ | ⟨b, _, _, _, g3⟩
          · exact (hne e0).elim
          · exact ⟨.value (a.eval x), a.eval x, w, φ, by simp [execOp, ho, g3], .inl rfl, R, hX⟩
      · cases h
      · rename_i g hno hno2 hl
        cases h
        have hg := hX _ hl
        cases g with
        | row t xs =>
          obtain ⟨i, p', b, _, _, _, _, _, g6⟩ := hg
          exact ⟨.value (a.eval x), a.eval x, w, φ, by simp [execOp, ho, g6], .inl rfl, R, hX⟩
        | box t y =>
          obtain ⟨b, _, _, g3⟩ := hg
          exact ⟨.value (a.eval x), a.eval x, w, φ, by simp [execOp, ho, g3], .inl rfl, R, hX⟩
        | obox t y => exact (hno _ _ _ rfl).elim
        | mp k v o => exact (hno2 _ _ _ _ rfl).elim
      · cases h
    · rename_i t y hx
      cases h
      have hX := harg _ _ hx
      obtain ⟨b, o', cs, ty, fz, g1, g2⟩ := hX
      exact ⟨.value (a.eval x), a.eval x, w, φ, by simp [execOp, ho, g1], .inl rfl, R, harg _ _ hx⟩
    · cases h
  · rename_i op t x y t2 ho
    split at h
    · rename_i x' y' hx hy
      split at h
      · rename_i v hv
        cases h
        exact tells_pure R (s := do eqGuard op t x y (a.eval x) (a.eval y); binOp op t (a.eval x) (a.eval y)) (by simp [execOp, ho]) (nilV_sound R x y hv (harg _ _ hx) (harg _ _ hy))
      · split at h
        · rename_i hb
          simp only [o3, Option.map_eq_some_iff] at h
          obtain ⟨⟨vc', v⟩, hv, e1⟩ := h
          cases e1
          exact tells_pure R (s := do eqGuard op t x y (a.eval x) (a.eval y); binOp op t (a.eval x) (a.eval y)) (by simp [execOp, ho]) (binV_sound x y hv hvc (boolT_spec hb) (harg _ _ hx) (harg _ _ hy))
        · cases h
    · cases h
  · rename_i op t x ho
    split at h
    · rename_i x' hx
      simp only [o1, Option.map_eq_some_iff] at h
      obtain ⟨v, hv, e1⟩ := h
      cases e1
      exact tells_pure R (s := Op.unary op (a.eval x)) (by simp [execOp, ho]) (unV_sound hv (harg _ _ hx))
    · cases h
  · rename_i src dst x ho
    split at h
    · rename_i x' hx
      split at h
      · rename_i v hv
        cases h
        exact tells_pure R (s := convert src dst (a.eval x)) (by simp [execOp, ho]) (convV_sound hv (harg _ _ hx))
      · split at h
        · rename_i v hv
          cases h
          exact tells_pure R (s := convert src dst (a.eval x)) (by simp [execOp, ho]) (strOfV_sound R hv (harg _ _ hx))
        · simp only [oe, Option.map_eq_some_iff] at h
          obtain ⟨⟨v, e0⟩, hv, e1⟩ := h
          cases e1
          exact tells_eff (s := convert src dst (a.eval x)) (by simp [execOp, ho]) (bytesV_sound R hf hv (harg _ _ hx))
    · cases h
  · rename_i f first captured ho
    split at h
    · rename_i hemp
      rw [Option.map_eq_some_iff] at h
      obtain ⟨vs, hvs, e1⟩ := h
      cases e1
      have hfi : first = #[] := by
        have : first.toList = [] := by simpa using hemp
        cases first; simp_all
      have := mapArgs_sound harg _ _ hvs
      refine ⟨.value (.func (.func f) #[] (captured.map a.eval)), _, w, φ, by simp [execOp, ho, Instr.makeFunc, hfi], .inl rfl, R, ⟨_, rfl, by simpa using (show All2 (SVRel (Eff.app st.regs []) φ (okOf (Eff.app st.regs []) φ) w) vs (captured.toList.map a.eval) from this)⟩⟩
    · cases h
  · rename_i t l c ho
    split at h
    · rename_i l' c' hl hc
      simp only [of3, Option.map_eq_some_iff] at h
      obtain ⟨⟨vc', v, e0⟩, hv, e1⟩ := h
      cases e1
      exact tells_eff (s := Instr.makeSlice t (a.eval l) (a.eval c)) (by simp [execOp, ho]) (makeV_sound R hf hv hvc (harg _ _ hl) (harg _ _ hc))
    · cases h
  · rename_i t x lo hi mx ho
    split at h
    · rename_i x' lo' hi' mx' hx hlo hhi hmx
      simp only [of3, Option.map_eq_some_iff] at h
      obtain ⟨⟨vc', v, e0⟩, hv, e1⟩ := h
      cases e1
      have hopt : ∀ (y : Option Operand) (y' : Option SV), optArg arg y = some y' → ∀ q, optI y' = some q → OptV q (y.map a.eval) := by
        intro y y' hy q hq
        refine optI_sound (rs := st.regs) (φ := φ) (ok := okOf st.regs φ) (w := w) hq ?_
        cases y with
        | none => simp only [optArg, Option.some.injEq] at hy; subst hy; trivial
        | some y =>
          simp only [optArg, Option.map_eq_some_iff] at hy
          obtain ⟨s, hs, rfl⟩ := hy
          exact harg _ _ hs
      obtain ⟨V, φ', h1, h2, h3⟩ := sliceV_sound (X := a.eval x) (Lo := lo.map a.eval) (Hi := hi.map a.eval) (Mx := mx.map a.eval) R hf hv hvc (harg _ _ hx) (hopt _ _ hlo) (hopt _ _ hhi) (hopt _ _ hmx)
      exact tells_eff (s := Instr.sliceAt t (a.eval x) (lo.map a.eval) (hi.map a.eval) (mx.map a.eval)) (by simp [execOp, ho]) ⟨V, w, φ', h1, h2, h3⟩
    · cases h
  · rename_i t x k ho
    split at h
    · rename_i x' hx
      simp only [of3, Option.map_eq_some_iff] at h
      obtain ⟨⟨vc', v, e0⟩, hv, e1⟩ := h
      cases e1
      obtain ⟨V, h1, h2, h3⟩ := fieldA_sound R hv hvc (harg _ _ hx)
      exact tells_eff (s := Instr.fieldAt t (a.eval x) k) (by simp [execOp, ho]) ⟨V, w, φ, h1, h2, h3⟩
    · cases h
  · rename_i t x k ho
    split at h
    · rename_i x' hx
      split at h
      · rename_i v hv
        cases h
        exact tells_pure R (s := Instr.field t (a.eval x) k) (by simp [execOp, ho]) (fieldV_sound hv (harg _ _ hx))
      · simp only [o1, Option.map_eq_some_iff] at h
        obtain ⟨v, hv, e1⟩ := h
        cases e1
        exact tells_pure R (s := Instr.field t (a.eval x) k) (by simp [execOp, ho]) (fieldN_sound R hv (harg _ _ hx))
    · cases h
  · rename_i t x i ho
    split at h
    · rename_i x' i' hx hi
      simp only [o3, Option.map_eq_some_iff] at h
      obtain ⟨⟨vc', v⟩, hv, e1⟩ := h
      cases e1
      exact tells_pure R (s := Instr.indexAt t (a.eval x) (a.eval i)) (by simp [execOp, ho]) (indexA_sound R hv hvc (harg _ _ hx) (harg _ _ hi))
    · cases h
  · rename_i t x i ho
    split at h
    · rename_i x' i' hx hi
      simp only [o3, Option.map_eq_some_iff] at h
      obtain ⟨⟨vc', v⟩, hv, e1⟩ := h
      cases e1
      exact tells_pure R (s := Instr.index t (a.eval x) (a.eval i)) (by simp [execOp, ho]) (indexV_sound hv hvc (harg _ _ hx) (harg _ _ hi))
    · cases h
  · rename_i x i ho
    split at h
    · rename_i vs hx
      rw [Option.map_eq_some_iff] at h
      obtain ⟨v, hv, e1⟩ := h
      cases e1
      obtain ⟨Vs, hV, hall⟩ := hargA _ _ hx
      obtain ⟨V, g1, g2⟩ := hall.get i v hv
      have g1' : Vs[i]? = some V := by simpa using g1
      exact ⟨.value V, V, w, φ, by simp [execOp, ho, hV, Instr.extract, g1'], .inl rfl, R, g2⟩
    · cases h
  · cases h
    exact (hvc False (by simp)).elim
  · rename_i t x ho
    split at h
    · cases h
    · rename_i D hD hu
      cases h
      refine ⟨.value (.iface t (a.eval x)), .iface t (a.eval x), w, φ, ?_, .inl rfl, R, trivial⟩
      simp only [execOp, ho]
      have : (Instr.makeInterface t (a.eval x)).run cx.P w = .ok (.iface t (a.eval x)) w := by
        unfold Instr.makeInterface
        simp only [Sem.run_bind, run_underlying hu, Result.andThen_ok]
        cases D <;> first | rfl | exact (hD _ hu).elim
      simp [this]
    · cases h
  · rename_i t r ho
    split at h
    · rename_i r' hr
      simp only [oe, Option.map_eq_some_iff] at h
      obtain ⟨⟨v, e0⟩, hv, e1⟩ := h
      cases e1
      refine tells_eff (s := Instr.makeMap t (r.map a.eval)) (by simp [execOp, ho]) ((fun hl => (Option.or_eq_some_iff.1 hv).elim (fun hv => makeMapV_sound R hf hv hl) (fun hv => makeMapK_sound R hf hv.2 hl)) ?_)
      cases r with
      | none => simp only [optArg, Option.some.injEq] at hr; subst hr; trivial
      | some y =>
        simp only [optArg, Option.map_eq_some_iff] at hr
        obtain ⟨s, hs, rfl⟩ := hr
        exact harg _ _ hs
    · cases h
  · rename_i t x i c ho
    split at h
    · rename_i x' i' hx hi
      rw [Option.map_eq_some_iff] at h
      obtain ⟨⟨vc', v⟩, hv, e1⟩ := h
      cases e1
      obtain ⟨V, h1, h2⟩ := (Option.or_eq_some_iff.1 hv).elim (fun hv => lookupV_sound R hv hvc (harg _ _ hx) (harg _ _ hi)) (fun hv => lookupK_sound R hv.2 (harg _ _ hx) (harg _ _ hi))
      exact ⟨.value V, V, w, φ, by simp [execOp, ho, h1], .inl rfl, R, h2⟩
    · cases h
  · rename_i t x i y ho
    split at h
    · rename_i x' i' y' hx hi hy
      rw [Option.map_eq_some_iff] at h
      obtain ⟨⟨vc', e0⟩, hv, e1⟩ := h
      cases e1
      obtain ⟨w', φ', h1, h2⟩ := (Option.or_eq_some_iff.1 hv).elim (fun hv => updV_sound R hv hvc (harg _ _ hx) (harg _ _ hi) (harg _ _ hy)) (fun hv => updK_sound R hv.2 hvc (harg _ _ hx) (harg _ _ hi) (harg _ _ hy))
      exact ⟨.skip, undef, w', φ', by simp [execOp, ho, h1], .inr ⟨rfl, rfl⟩, h2, trivial⟩
    · cases h
  · rename_i t x i y ho
    split at h
    · rename_i x' i' y' hx hi hy
      rw [Option.map_eq_some_iff] at h
      obtain ⟨⟨vc', e0⟩, hv, e1⟩ := h
      cases e1
      obtain ⟨w', φ', h1, h2⟩ := (Option.or_eq_some_iff.1 hv).elim (fun hv => updV_sound R hv hvc (harg _ _ hx) (harg _ _ hi) (harg _ _ hy)) (fun hv => updK_sound R hv.2 hvc (harg _ _ hx) (harg _ _ hi) (harg _ _ hy))
      exact ⟨.skip, undef, w', φ', by simp [execOp, ho, h1], .inr ⟨rfl, rfl⟩, h2, trivial⟩
    · cases h
  · rename_i b args ts ho
    split at h
    · split at h
      · rename_i x t hx ht
        split at h
        · rename_i x' hx'
          simp only [o1, Option.map_eq_some_iff] at h
          obtain ⟨v, hv, e1⟩ := h
          cases e1
          have e2 : args = #[x] := by cases args; simp_all
          have e3 : ts = #[t] := by cases ts; simp_all
          subst e2; subst e3
          refine tells_pure R (s := Builtin.len_ #[t] o.type #[a.eval x]) ?_ (lenV_sound R hv (harg _ _ hx'))
          simp [execOp, ho, resolve, invoke, builtin]
        · cases h
      · cases h
    · split at h
      · rename_i x t hx ht
        split at h
        · rename_i x' hx'
          simp only [o1, Option.map_eq_some_iff] at h
          obtain ⟨v, hv, e1⟩ := h
          cases e1
          have e2 : args = #[x] := by cases args; simp_all
          have e3 : ts = #[t] := by cases ts; simp_all
          subst e2; subst e3
          refine tells_pure R (s := Builtin.cap_ #[t] o.type #[a.eval x]) ?_ (capV_sound hv (harg _ _ hx'))
          simp [execOp, ho, resolve, invoke, builtin]
        · cases h
      · cases h
    · split at h
      · rename_i s x sT xT hx ht
        split at h
        · rename_i s' x' hs' hx'
          simp only [of3, Option.map_eq_some_iff] at h
          obtain ⟨⟨vc', v, e0⟩, hv, e1⟩ := h
          cases e1
          have e2 : args = #[s, x] := by cases args; simp_all
          have e3 : ts = #[sT, xT] := by cases ts; simp_all
          subst e2; subst e3
          refine tells_eff (s := Builtin.append_ #[sT, xT] o.type #[a.eval s, a.eval x]) ?_ (appendV_sound R hf hv hvc (harg _ _ hs') (harg _ _ hx'))
          simp [execOp, ho, resolve, invoke, builtin]
        · cases h
      · cases h
    · split at h
      · rename_i vs hvs
        simp only [o1, Option.map_eq_some_iff] at h
        obtain ⟨v, hv, e1⟩ := h
        cases e1
        have := mapArgs_sound harg _ _ hvs
        refine tells_pure R (s := Builtin.min_ ts o.type (args.map a.eval)) ?_ (by have h9 := minV_sound (P := cx.P) (ts := ts) (t := o.type) (Xs := args.map a.eval) false hv (by simpa using this); simpa using h9)
        simp [execOp, ho, resolve, invoke, builtin]
      · cases h
    · split at h
      · rename_i vs hvs
        simp only [o1, Option.map_eq_some_iff] at h
        obtain ⟨v, hv, e1⟩ := h
        cases e1
        have := mapArgs_sound harg _ _ hvs
        refine tells_pure R (s := Builtin.max_ ts o.type (args.map a.eval)) ?_ (by have h9 := minV_sound (P := cx.P) (ts := ts) (t := o.type) (Xs := args.map a.eval) true hv (by simpa using this); simpa using h9)
        simp [execOp, ho, resolve, invoke, builtin]
      · cases h
    · split at h
      · rename_i x i t t2 hx ht
        split at h
        · rename_i x' i' hx' hi'
          simp only [of3, Option.map_eq_some_iff] at h
          obtain ⟨⟨vc', v, e0⟩, hv, e1⟩ := h
          cases e1
          have e2 : args = #[x, i] := by cases args; simp_all
          have e3 : ts = #[t, t2] := by cases ts; simp_all
          subst e2; subst e3
          refine tells_eff (s := Builtin.delete_ #[t, t2] o.type #[a.eval x, a.eval i]) ?_ (delV_sound R #[t, t2] o.type hv hvc rfl (harg _ _ hx') (harg _ _ hi'))
          simp [execOp, ho, resolve, invoke, builtin]
        · cases h
      · cases h
    · cases h
  · cases h

end Go.Lift
/- Functions told by a summary: what a call takes and gives. -/
namespace Go.Lift
open Go

inductive PK where
  | v (t : Ty)
  | box (t : Ty)
  | row (t : Ty)
  | nl
  | obox (t : Ty)
  | mp (k v : Ty)
  | ref (t : Ty)      -- a pointer that is only read
  | fn0 (f : FuncId)  -- a function that is known
  | fnr (f : FuncId) (t : Ty)  -- a function that is known and holds an address that is only read
inductive RK where
  | v (t : Ty)
  | vn (t : Ty)
  | row (t : Ty)
  | box (t : Ty)
  | obox (t : Ty)
  | mp (k v : Ty)
@[reducible] def PK.den : PK → Type
  | .v t => t.den
  | .box t => t.den
  | .row t => List t.den
  | .nl => Unit
  | .fn0 _ => Unit
  | .fnr _ t => t.den
  | .obox t => Option t.den
  | .mp k vt => Option (List (k.den × vt.den))
  | .ref t => t.den
@[reducible] def PK.out : PK → Type
  | .v _ => Unit
  | .box t => t.den
  | .row t => List t.den
  | .nl => Unit
  | .fn0 _ => Unit
  | .fnr _ _ => Unit
  | .obox t => Option t.den
  | .mp k vt => Option (List (k.den × vt.den))
  | .ref _ => Unit
@[reducible] def RK.den : RK → Type
  | .v t => t.den
  | .row t => List t.den
  | .box t => t.den
  | .obox t => Option t.den
  | .vn t => List t.den
  | .mp k vt => Option (List (k.den × vt.den))
@[reducible] def dens : List PK → Type
  | [] => Unit
  | p :: ps => p.den × dens ps
@[reducible] def outs : List PK → Type
  | [] => Unit
  | p :: ps => p.out × outs ps
@[reducible] def rdens : List RK → Type
  | [] => Unit
  | p :: ps => p.den × rdens ps

structure Summ where
  par : List PK
  res : List RK
  esc : Bool
  pre : dens par → Prop
  fn : dens par → rdens res × outs par

/-- A region that is shut: its places. -/
structure Good (w : World) (l : Sub) : Prop where
  inj : l.inj
  hd : ∀ q, (l q).hd = true
  al : ∀ b, l.has b → b < w.heap.size
def Apart (ls : List Sub) : Prop := ∀ (i j : Nat) (l l' : Sub) (b : Nat), ls[i]? = some l → ls[j]? = some l' → l.has b → l'.has b → i = j

/-- An argument and what it tells; l: where, if it may be written. -/
def PRel (ok okO : Nat → Prop) (w : World) : (p : PK) → p.den → Value → Sub → Prop
  | .v t, x, v, _ => VRel ok w t x v
  | .box t, x, v, l => Reg.at okO w l (.box t x []) ∧ Good w l ∧ v = hdr l (.box t x [])
  | .row t, xs, v, l => Reg.at okO w l (.row t xs []) ∧ Good w l ∧ v = hdr l (.row t xs [])
  | .nl, _, v, _ => v = .slice none 0 0
  | .fn0 f, _, v, _ => v = .func (.func f) #[] #[]
  | .fnr f t, x, v, _ => ∃ b o cs ty fz, v = .func (.func f) #[] #[.pointer (some ⟨b, o, none⟩)] ∧ ok b ∧ w.heap[b]? = some (.cells cs ty fz) ∧ t.rd ok w Sub.none x (fun j => cs[o + j]?)
  | .obox t, o, v, l => Reg.at okO w l (.obox t o []) ∧ Good w l ∧ v = hdr l (.obox t o [])
  | .mp k vt, o, v, l => Reg.at okO w l (.mp k vt o []) ∧ Good w l ∧ v = hdr l (.mp k vt o [])
  | .ref t, x, v, _ => ∃ b o cs ty fz, v = .pointer (some ⟨b, o, none⟩) ∧ ok b ∧ w.heap[b]? = some (.cells cs ty fz) ∧ t.rd ok w Sub.none x (fun j => cs[o + j]?)
def PsRel (ok okO : Nat → Prop) (w : World) : (ps : List PK) → dens ps → List Value → List Sub → Prop
  | [], _, vs, ls => vs = [] ∧ ls = []
  | p :: ps, x, vs, ls => ∃ v vs' l ls', vs = v :: vs' ∧ ls = l :: ls' ∧ PRel ok okO w p x.1 v l ∧ PsRel ok okO w ps x.2 vs' ls'
def PK.io : PK → Bool
  | .v _ => false
  | .nl => false
  | .fn0 _ => false
  | .fnr _ _ => false
  | .ref _ => false
  | _ => true
/-- The places that may be written. -/
def ioLocs : List PK → List Sub → List Sub
  | p :: ps, l :: ls => if p.io then l :: ioLocs ps ls else ioLocs ps ls
  | _, _ => []
/-- What they hold afterwards. -/
def OutRel (ok : Nat → Prop) (w : World) : (ps : List PK) → outs ps → List Sub → Prop
  | [], _, ls => ls = []
  | .v _ :: ps, y, ls => OutRel ok w ps y.2 ls
  | .nl :: ps, y, ls => OutRel ok w ps y.2 ls
  | .fn0 _ :: ps, y, ls => OutRel ok w ps y.2 ls
  | .fnr _ _ :: ps, y, ls => OutRel ok w ps y.2 ls
  | .ref _ :: ps, y, ls => OutRel ok w ps y.2 ls
  | .box t :: ps, y, ls => ∃ l ls', ls = l :: ls' ∧ Reg.at ok w l (.box t y.1 []) ∧ OutRel ok w ps y.2 ls'
  | .row t :: ps, y, ls => ∃ l ls', ls = l :: ls' ∧ Reg.at ok w l (.row t y.1 []) ∧ OutRel ok w ps y.2 ls'
  | .obox t :: ps, y, ls => ∃ l ls', ls = l :: ls' ∧ Reg.at ok w l (.obox t y.1 []) ∧ OutRel ok w ps y.2 ls'
  | .mp k v :: ps, y, ls => ∃ l ls', ls = l :: ls' ∧ Reg.at ok w l (.mp k v y.1 []) ∧ OutRel ok w ps y.2 ls'
/-- What stays of its size. -/
def KindRel : (ps : List PK) → dens ps → outs ps → Prop
  | [], _, _ => True
  | .v _ :: ps, x, y => KindRel ps x.2 y.2
  | .nl :: ps, x, y => KindRel ps x.2 y.2
  | .fn0 _ :: ps, x, y => KindRel ps x.2 y.2
  | .fnr _ _ :: ps, x, y => KindRel ps x.2 y.2
  | .ref _ :: ps, x, y => KindRel ps x.2 y.2
  | .box _ :: ps, x, y => KindRel ps x.2 y.2
  | .row _ :: ps, x, y => List.length y.1 = List.length x.1 ∧ KindRel ps x.2 y.2
  | .obox _ :: ps, x, y => Option.isSome y.1 = Option.isSome x.1 ∧ KindRel ps x.2 y.2
  | .mp _ _ :: ps, x, y => KindRel ps x.2 y.2

def RK.fresh : RK → Bool
  | .v _ => false
  | .vn _ => false
  | _ => true
/-- The results; ls: the places of what is handed out. -/
def RsRel (ok : Nat → Prop) (w : World) : (rs : List RK) → rdens rs → List Value → List Sub → Prop
  | [], _, vs, ls => vs = [] ∧ ls = []
  | .v t :: rs, x, vs, ls => ∃ v vs', vs = v :: vs' ∧ VRel ok w t x.1 v ∧ RsRel ok w rs x.2 vs' ls
  | .vn t :: rs, x, vs, ls => ∃ v vs', vs = v :: vs' ∧ (VRel ok w (.ro t) x.1 v ∧ ((x.1 : List t.den) = [] → v = .slice none 0 0)) ∧ RsRel ok w rs x.2 vs' ls
  | .row t :: rs, x, vs, ls => ∃ v vs' l ls', vs = v :: vs' ∧ ls = l :: ls' ∧ (Reg.at ok w l (.row t x.1 []) ∧ v = hdr l (.row t x.1 [])) ∧ RsRel ok w rs x.2 vs' ls'
  | .box t :: rs, x, vs, ls => ∃ v vs' l ls', vs = v :: vs' ∧ ls = l :: ls' ∧ (Reg.at ok w l (.box t x.1 []) ∧ v = hdr l (.box t x.1 [])) ∧ RsRel ok w rs x.2 vs' ls'
  | .obox t :: rs, x, vs, ls => ∃ v vs' l ls', vs = v :: vs' ∧ ls = l :: ls' ∧ (Reg.at ok w l (.obox t x.1 []) ∧ v = hdr l (.obox t x.1 [])) ∧ RsRel ok w rs x.2 vs' ls'
  | .mp k vt :: rs, x, vs, ls => ∃ v vs' l ls', vs = v :: vs' ∧ ls = l :: ls' ∧ (Reg.at ok w l (.mp k vt x.1 []) ∧ v = hdr l (.mp k vt x.1 [])) ∧ RsRel ok w rs x.2 vs' ls'

/-- One value, or a tuple of several. -/
def retVal (vs : List Value) : Value :=
  match vs with
  | [v] => v
  | vs => .tuple vs.toArray

/-- What may be read for good after a call. -/
def okAfter (esc : Bool) (ok okO : Nat → Prop) (w : World) (io G : List Sub) (b : Nat) : Prop :=
  (∀ l ∈ G, ¬ l.has b) ∧ (w.heap.size ≤ b ∨ (∃ l ∈ io, l.has b) ∨ (esc = true ∧ ok b ∧ b < w.heap.size) ∨ (okO b ∧ b < w.heap.size))
structure After (S : Summ) (x : dens S.par) (ls : List Sub) (w : World) (ok okO : Nat → Prop) (vs : List Value) (rl ls' : List Sub) (w' : World) : Prop where
  kept : Kept (fun b => ∃ l ∈ ioLocs S.par ls, l.has b) w.heap.size w w'
  res : RsRel (okAfter S.esc ok okO w (ioLocs S.par ls) (rl ++ ls')) w' S.res (S.fn x).1 vs rl
  out : OutRel (okAfter S.esc ok okO w (ioLocs S.par ls) (rl ++ ls')) w' S.par (S.fn x).2 ls'
  same : All2 Sub.same (ioLocs S.par ls) ls'
  kind : KindRel S.par x (S.fn x).2
  apart : Apart (rl ++ ls')
  good : ∀ l ∈ rl ++ ls', Good w' l
  blk : ∀ l ∈ rl ++ ls', ∀ b, l.has b → w.heap.size ≤ b ∨ ∃ l0 ∈ ioLocs S.par ls, l0.has b
def SumOK (P : Program) (f : FuncId) (S : Summ) : Prop :=
  ∀ (x : dens S.par) (args : List Value) (ls : List Sub) (w : World) (ok okO : Nat → Prop), S.pre x → PsRel ok okO w S.par x args ls →
    Apart (ioLocs S.par ls) → (∀ l ∈ ioLocs S.par ls, ∀ b, l.has b → ¬ ok b ∧ ¬ okO b) →
    Calls P f args.toArray w fun e w' => ∃ (vs : List Value) (rl ls' : List Sub), e = .returned (retVal vs) ∧ After S x ls w ok okO vs rl ls' w'

/-! ### many regions at once -/
structure Chg where
  id : Nat
  reg : Reg
  loc : Sub
def chgOf : List Chg → Nat → Option Chg
  | [], _ => none
  | c :: cs, r => if c.id = r then some c else chgOf cs r
def setLocs (φ : Phi) (L : List Chg) : Phi := ⟨fun r => match chgOf L r with | some c => c.loc | none => φ r, φ.base⟩
theorem chgOf_some : ∀ {L : List Chg} {r : Nat} {c : Chg}, chgOf L r = some c → c ∈ L ∧ c.id = r
  | [], _, _, h => by cases h
  | c' :: L, r, c, h => by
    unfold chgOf at h
    split at h
    · rename_i e; cases h; exact ⟨List.mem_cons_self .., e⟩
    · obtain ⟨h1, h2⟩ := chgOf_some h; exact ⟨List.mem_cons_of_mem _ h1, h2⟩
theorem chgOf_mem : ∀ {L : List Chg} {c : Chg}, (L.map Chg.id).Nodup → c ∈ L → chgOf L c.id = some c
  | [], _, _, h => by cases h
  | c' :: L, c, hn, h => by
    simp only [List.map_cons, List.nodup_cons] at hn
    unfold chgOf
    rcases List.mem_cons.1 h with h | h
    · subst h; rw [if_pos rfl]
    · rw [if_neg (fun e => hn.1 (by rw [e]; exact List.mem_map.2 ⟨c, h, rfl⟩))]
      exact chgOf_mem hn.2 h
theorem chgOf_none : ∀ {L : List Chg} {r : Nat}, chgOf L r = none → ∀ c ∈ L, c.id ≠ r
  | [], _, _, c, h => by cases h
  | c' :: L, r, hn, c, h => by
    unfold chgOf at hn
    split at hn
    · cases hn
    · rename_i e
      rcases List.mem_cons.1 h with h | h
      · subst h; exact e
      · exact chgOf_none hn c h
theorem RelF.many {cx : Cx} {φ : Phi} {st : St} {a : Act} {w w' : World} (R : RelF cx φ st a w) (C : List Chg) (rs' : Regs)
    (hrs : ∀ s, look rs' s = match chgOf C s with | some c => some c.reg | none => look st.regs s)
    (hkind : ∀ c ∈ C, FreshN cx st c.id ∨ ((φ c.id).same c.loc ∧ ∃ g0, look st.regs c.id = some g0 ∧ SameKind g0 c.reg))
    (hH : ∀ c ∈ C, c.reg.holes = []) (hgood : ∀ c ∈ C, Good w' c.loc)
    (hblk : ∀ c ∈ C, ∀ b, c.loc.has b → w.heap.size ≤ b ∨ ∃ c0 ∈ C, ∃ g0, look st.regs c0.id = some g0 ∧ (φ c0.id).has b)
    (hsep : ∀ c ∈ C, ∀ c' ∈ C, ∀ b, c.loc.has b → c'.loc.has b → c.id = c'.id)
    (hother : ∀ b, b < w.heap.size → (∀ c ∈ C, ∀ g0, look st.regs c.id = some g0 → ¬ (φ c.id).has b) → w'.heap[b]? = w.heap[b]?)
    (hat : ∀ c ∈ C, c.reg.at (okOf rs' (setLocs φ C)) w' c.loc)
    (hos : w'.os = w.os) (htape : w'.tape = w.tape) (hout : w'.output = w.output) (hsize : w.heap.size ≤ w'.heap.size) :
    RelF cx (setLocs φ C) { st with regs := rs' } a w' := by
  have L := R.lay
  have hlook : ∀ s g, look rs' s = some g → (∃ c ∈ C, c.id = s ∧ c.reg = g ∧ setLocs φ C s = c.loc) ∨ ((∀ c ∈ C, c.id ≠ s) ∧ look st.regs s = some g ∧ setLocs φ C s = φ s) := by
    intro s g h
    rw [hrs] at h
    cases hc : chgOf C s with
    | some c =>
      rw [hc] at h
      obtain ⟨h1, h2⟩ := chgOf_some hc
      exact .inl ⟨c, h1, h2, by simpa using h, by simp [setLocs, hc]⟩
    | none =>
      rw [hc] at h
      exact .inr ⟨chgOf_none hc, h, by simp [setLocs, hc]⟩
  have hne : ∀ s g b, (∀ c ∈ C, c.id ≠ s) → look st.regs s = some g → (φ s).has b → ∀ c ∈ C, ¬ c.loc.has b := by
    intro s g b h1 h2 h3 c hc h4
    rcases hblk c hc b h4 with h5 | ⟨c0, k0, g0, k1, k2⟩
    · have := L.al s g b h2 h3; omega
    · exact h1 c0 k0 (L.sep c0.id s g0 g b k1 h2 k2 h3)
  have hstay : ∀ s g, (∀ c ∈ C, c.id ≠ s) → look st.regs s = some g → ∀ b, (φ s).has b → w'.heap[b]? = w.heap[b]? := fun s g h1 h2 b hb =>
    hother b (L.al s g b h2 hb) fun c hc g0 hg0 hb2 => h1 c hc (L.sep c.id s g0 g b hg0 h2 hb2 hb)
  have hm : ∀ b o, okOf st.regs φ b → w.heap[b]? = some o → okOf rs' (setLocs φ C) b ∧ w'.heap[b]? = some o := by
    intro b o hok hh
    have hlt : b < w.heap.size := by
      rcases Nat.lt_or_ge b w.heap.size with h1 | h1
      · exact h1
      · simp [Array.getElem?_eq_none h1] at hh
    refine ⟨⟨fun s g hs hb => ?_, hok.2⟩, (hother b hlt fun c _ g0 hg0 => hok.1 c.id g0 hg0).trans hh⟩
    rcases hlook s g hs with ⟨c, h1, h2, h3, h4⟩ | ⟨h1, h2, h3⟩
    · rw [h4] at hb
      rcases hblk c h1 b hb with h5 | ⟨c0, k0, g0, k1, k2⟩
      · omega
      · exact hok.1 c0.id g0 k1 k2
    · rw [h3] at hb; exact hok.1 s g h2 hb
  refine R.change (w' := w') hm ?_ ?_ ?_ rfl
  · intro s g hg hf
    rcases hlook s g hg with ⟨c, h1, h2, h3, h4⟩ | ⟨h1, h2, h3⟩
    · rw [h4]
      rcases hkind c h1 with hk | ⟨k1, g0, k2, k3⟩
      · exact (hf (h2 ▸ hk.1)).elim
      · subst h2; subst h3; exact ⟨k1, g0, k2, k3⟩
    · rw [h3]; exact ⟨.rfl' _, g, h2, .refl g⟩
  · refine ⟨?_, ?_, ?_, ?_, ?_, ?_, ?_, ?_, ?_⟩
    · intro s g hg
      rcases hlook s g hg with ⟨c, h1, h2, h3, h4⟩ | ⟨h1, h2, h3⟩
      · rw [h4]; subst h3; exact hat c h1
      · rw [h3]
        exact Reg.at_mono hm (fun b hb => hstay s g h1 h2 b (Sub.has_blk hb)) (fun p b _ hb => hstay s g h1 h2 b ⟨p, hb⟩) (L.rg s g h2)
    · intro s g hg
      rcases hlook s g hg with ⟨c, h1, h2, h3, h4⟩ | ⟨h1, h2, h3⟩
      · rw [h4]; exact (hgood c h1).inj
      · rw [h3]; exact L.inj s g h2
    · intro s s' g g' b hg hg' hb hb'
      rcases hlook s g hg with ⟨c, h1, h2, h3, h4⟩ | ⟨h1, h2, h3⟩ <;> rcases hlook s' g' hg' with ⟨c', j1, j2, j3, j4⟩ | ⟨j1, j2, j3⟩
      · rw [h4] at hb; rw [j4] at hb'; rw [← h2, ← j2]; exact hsep c h1 c' j1 b hb hb'
      · rw [h4] at hb; rw [j3] at hb'; exact (hne s' g' b j1 j2 hb' c h1 hb).elim
      · rw [h3] at hb; rw [j4] at hb'; exact (hne s g b h1 h2 hb c' j1 hb').elim
      · rw [h3] at hb; rw [j3] at hb'; exact L.sep s s' g g' b h2 j2 hb hb'
    · intro s g b hg hb
      rcases hlook s g hg with ⟨c, h1, h2, h3, h4⟩ | ⟨h1, h2, h3⟩
      · rw [h4] at hb; exact (hgood c h1).al b hb
      · rw [h3] at hb; exact Nat.lt_of_lt_of_le (L.al s g b h2 hb) hsize
    · intro s g b hg hb
      rcases hlook s g hg with ⟨c, h1, h2, h3, h4⟩ | ⟨h1, h2, h3⟩
      · rw [h4] at hb
        rcases hblk c h1 b hb with h5 | ⟨c0, k0, g0, k1, k2⟩
        · have := R.hB; left; omega
        · exact L.fr c0.id g0 b k1 k2
      · rw [h3] at hb; exact L.fr s g b h2 hb
    · intro s l0 hl0 hs
      obtain ⟨g, hg⟩ := Option.isSome_iff_exists.1 hs
      rcases hlook s g hg with ⟨c, h1, h2, h3, h4⟩ | ⟨h1, h2, h3⟩
      · rw [h4]
        rcases hkind c h1 with hk | ⟨k1, g0, k2, k3⟩
        · exact (hk.2 l0 (h2 ▸ hl0)).elim
        · subst h2; exact k1.symm.trans (L.io c.id l0 hl0 (by simp [k2]))
      · rw [h3]; exact L.io s l0 hl0 (by simp [h2])
    · intro s g hg p m hpm hp gm hgm
      rcases hlook s g hg with ⟨c, h1, h2, h3, h4⟩ | ⟨h1, h2, h3⟩
      · subst h3; rw [hH c h1] at hpm; cases hpm
      · rw [h3, cellR_congr (w := w) (fun b hb => hstay s g h1 h2 b (Sub.has_blk hb))]
        rcases hlook m gm hgm with ⟨c, j1, j2, j3, j4⟩ | ⟨j1, j2, j3⟩
        · rw [j4]
          rcases hkind c j1 with hk | ⟨k1, g0, k2, k3⟩
          · exact (hk.1.2.2.2 s g h2 p (j2 ▸ hpm)).elim
          · subst j2; subst j3
            rw [L.hl s g h2 p c.id hpm hp g0 k2, k3.hdr k1]
        · rw [j3]; exact L.hl s g h2 p m hpm hp gm j2
    · intro s g hg q hq
      rcases hlook s g hg with ⟨c, h1, h2, h3, h4⟩ | ⟨h1, h2, h3⟩
      · rw [h4, (hgood c h1).hd] at hq; cases hq
      · rw [h3] at hq; exact L.told s g h2 q hq
    · intro s g hg p m hpm
      rcases hlook s g hg with ⟨c, h1, h2, h3, h4⟩ | ⟨h1, h2, h3⟩
      · subst h3; rw [hH c h1] at hpm; cases hpm
      · exact L.ht s g h2 p m hpm
  · refine ⟨hos, htape, hout, hsize, fun k hk hown => ?_⟩
    refine hother k (by have := R.hB; omega) fun c _ g0 hg0 hb => ?_
    rcases L.fr c.id g0 k hg0 hb with h | h
    · omega
    · exact hown h

end Go.Lift
/- What is owned, seen as what is only read. -/
namespace Go.Lift
open Go

def Ty.roable : Ty → Bool
  | .own t => t.roable
  | .pair a b => a.roable && b.roable
  | .arr _ t => t.roable
  | .ptr _ => false
  | .map _ _ => false
  | _ => true
theorem roT_den : ∀ (t : Ty), t.roT.den = t.den
  | .int _ => rfl
  | .bool => rfl
  | .str => rfl
  | .unit => rfl
  | .ro _ => rfl
  | .ptr _ => rfl
  | .map _ _ => rfl
  | .own t => congrArg List (roT_den t)
  | .arr _ t => congrArg List (roT_den t)
  | .pair a b => by
    show (a.roT.den × b.roT.den) = (a.den × b.den)
    rw [roT_den a, roT_den b]
def roC (t : Ty) (x : t.den) : t.roT.den := cast (roT_den t).symm x
theorem cast_pair {A A' B B' : Type} (h1 : A = A') (h2 : B = B') (h : (A × B) = (A' × B')) (x : A × B) : (cast h x).1 = cast h1 x.1 ∧ (cast h x).2 = cast h2 x.2 := by
  subst h1; subst h2; exact ⟨rfl, rfl⟩
theorem cast_list {A A' : Type} (h1 : A = A') (h : List A = List A') (xs : List A) : (cast h xs).length = xs.length ∧ ∀ i (k1 : i < (cast h xs).length) (k2 : i < xs.length), (cast h xs)[i] = cast h1 xs[i] := by
  subst h1; exact ⟨rfl, fun _ _ _ => rfl⟩
theorem rd_ro {ok ok' : Nat → Prop} {w : World} (h : ∀ b o, ok b → w.heap[b]? = some o → ok' b ∧ w.heap[b]? = some o) :
    ∀ (t : Ty) (s : Sub) (x : t.den) (c : Nat → Option Value), t.roable = true → (∀ q, (s q).hd = true) → (∀ b, s.has b → ok' b) → t.rd ok w s x c → t.roT.rd ok' w Sub.none (roC t x) c := by
  intro t
  induction t with
  | int k => intro s x c _ _ _ hr; exact hr
  | bool => intro s x c _ _ _ hr; exact hr
  | str => intro s x c _ _ _ hr; exact hr
  | unit => intro s x c _ _ _ hr; exact hr
  | ro t ih => intro s x c _ _ _ hr; exact Ty.rd_mono h (.ro t) x c hr
  | ptr t ih => intro s x c hn; cases hn
  | map k v _ _ => intro s x c hn; cases hn
  | pair a b iha ihb =>
    intro s x c hn hd hb hr
    simp only [Ty.roable, Bool.and_eq_true] at hn
    obtain ⟨e1, e2⟩ := cast_pair (roT_den a).symm (roT_den b).symm (roT_den (.pair a b)).symm x
    have h1 := iha (s.at [.fst]) x.1 c hn.1 (fun q => hd _) (fun b' ⟨q, hq⟩ => hb b' ⟨.fst :: q, hq⟩) hr.1
    have h2 := ihb (s.at [.snd]) x.2 _ hn.2 (fun q => hd _) (fun b' ⟨q, hq⟩ => hb b' ⟨.snd :: q, hq⟩) hr.2
    refine ⟨?_, ?_⟩
    · exact (congrArg (fun z : a.roT.den => a.roT.rd ok' w Sub.none z c) e1).mpr h1
    · have h3 : b.roT.rd ok' w Sub.none (roC b x.2) (fun j => c (a.roT.sz + j)) := by rw [(roT_sz a).1]; exact h2
      exact (congrArg (fun z : b.roT.den => b.roT.rd ok' w Sub.none z (fun j => c (a.roT.sz + j))) e2).mpr h3
  | arr n t ih =>
    intro s x c hn hd hb hr
    obtain ⟨e1, e2⟩ := cast_list (roT_den t).symm (roT_den (.arr n t)).symm x
    refine ⟨e1.trans hr.1, fun i hi => ?_⟩
    have hi' : i < List.length x := by rw [← e1]; exact hi
    have h1 := ih (s.at [.idx i]) _ _ hn (fun q => hd _) (fun b' ⟨q, hq⟩ => hb b' ⟨.idx i :: q, hq⟩) (hr.2 i hi')
    have h3 : t.roT.rd ok' w Sub.none (roC t (x[i]'hi')) (fun j => c (i * t.roT.sz + j)) := by rw [(roT_sz t).1]; exact h1
    exact (congrArg (fun z : t.roT.den => t.roT.rd ok' w Sub.none z (fun j => c (i * t.roT.sz + j))) (e2 i hi hi')).mpr h3
  | own t ih =>
    intro s x c hn hd hb hr
    obtain ⟨e1, e2⟩ := cast_list (roT_den t).symm (roT_den (.own t)).symm x
    obtain ⟨k1, k2, k3⟩ := hr (hd _)
    refine ⟨(s []).addr, (s []).cap, ?_, ?_, ?_⟩
    · rw [k1]
      exact congrArg (fun k => some (Value.slice (s []).addr k (s []).cap)) e1.symm
    · exact Nat.le_trans (Nat.le_of_eq e1) k2
    · cases hbl : (s []).blk with
      | none =>
        simp only [hbl] at k3
        left
        exact List.length_eq_zero_iff.1 (Nat.le_zero.1 (Nat.le_trans (Nat.le_of_eq e1) (by rw [← k3]; exact k2)))
      | some b =>
        simp only [hbl] at k3
        obtain ⟨cs, ty, fz, f1, f2, f3, f4⟩ := k3
        right
        refine ⟨b, (s []).off, cs, ty, fz, by simp [Ref.addr, hbl], hb b ⟨[], hbl⟩, f1, fun i hi => ?_⟩
        have hi' : i < List.length x := by rw [← e1]; exact hi
        have h1 := ih (s.at [.idx i]) _ _ hn (fun q => hd _) (fun b' ⟨q, hq⟩ => hb b' ⟨.idx i :: q, hq⟩) (f4 i hi')
        have h3 : t.roT.rd ok' w Sub.none (roC t (x[i]'hi')) (fun j => cs[(s []).off + i * t.roT.sz + j]?) := by rw [(roT_sz t).1]; exact h1
        exact (congrArg (fun z : t.roT.den => t.roT.rd ok' w Sub.none z (fun j => cs[(s []).off + i * t.roT.sz + j]?)) (e2 i hi hi')).mpr h3
end Go.Lift
/- A call told by a summary: abstract. -/
namespace Go.Lift
open Go

/-- A value handed in to be read. -/
def readV (rs : Regs) (esc : Bool) (v : SV) (t : Ty) : Option (t.den × Option Nat) :=
  match v with
  | .val u y => (castTy u t y).map fun z => (z, none)
  | .nilsl => match t with
    | .ro τ => some (([] : List τ.den), none)
    | _ => none
  | .sl r => if esc = true then none else match t with
    | .ro τ => match look rs r with
      | some (.row τ' xs []) => if τ'.plain = true then (castTy (.ro τ') (.ro τ) xs).map fun z => (z, some r) else if τ'.roable = true then (castTy (.ro τ'.roT) (.ro τ) (roC (.own τ') xs)).map fun z => (z, some r) else none
      | _ => none
    | _ => none
  | .slv r lo hi => if esc = true then none else match t with
    | .ro τ => match look rs r with
      | some (.row τ' xs []) => if τ'.plain = true then (castTy (.ro τ') (.ro τ) ((xs.take hi.toNat).drop lo.toNat)).map fun z => (z, some r) else none
      | _ => none
    | _ => none
  | _ => none

/-- A place handed in to be read. -/
def readA (rs : Regs) (esc : Bool) (v : SV) (t : Ty) : Option (t.den × List Prop × Option Nat) :=
  match v with
  | .ra u y => (castTy u t y).map fun z => (z, [], none)
  | .addr r p => if esc = true then none else match look rs r with
    | some g => if g.holes.isEmpty = true ∧ g.isCells = true then (match ptyR g p with
      | some u => if u.roable = true then (match getR g p u with
        | some y => (castTy u.roT t (roC u y)).map fun z => (z, pokVC g p, some r)
        | none => none) else none
      | none => none) else none
    | none => none
  | _ => none
/-- The parameters bound: what they hold, what must hold, the regions that may be written, those that are only read. -/
def bindP (rs : Regs) (esc : Bool) : (ps : List PK) → List SV → Option (dens ps × List Prop × List Nat × List Nat)
  | [], [] => some ((), [], [], [])
  | .v t :: ps, v :: vs => match readV rs esc v t, bindP rs esc ps vs with
    | some (y, b), some (x, vc, io, bo) => some ((y, x), vc, io, b.toList ++ bo)
    | _, _ => none
  | .ref t :: ps, v :: vs => match readA rs esc v t, bindP rs esc ps vs with
    | some (y, vc', b), some (x, vc, io, bo) => some ((y, x), vc' ++ vc, io, b.toList ++ bo)
    | _, _ => none
  | .fnr f t :: ps, .fna g r p :: vs => if g = f then (match readA rs esc (.addr r p) t, bindP rs esc ps vs with
    | some (y, vc', b), some (x, vc, io, bo) => some ((y, x), vc' ++ vc, io, b.toList ++ bo)
    | _, _ => none) else none
  | .fnr f t :: ps, .fnr g u y :: vs => if g = f then (match castTy u t y, bindP rs esc ps vs with
    | some y, some (x, vc, io, bo) => some ((y, x), vc, io, bo)
    | _, _ => none) else none
  | .nl :: ps, .nilsl :: vs => match bindP rs esc ps vs with
    | some (x, vc, io, bo) => some (((), x), vc, io, bo)
    | none => none
  | .fn0 f :: ps, .fn0 g :: vs => if g = f then (match bindP rs esc ps vs with
    | some (x, vc, io, bo) => some (((), x), vc, io, bo)
    | none => none) else none
  | .box t :: ps, .addr r [] :: vs => match look rs r with
    | some (.box t' y []) => match castTy t' t y, bindP rs esc ps vs with
      | some y, some (x, vc, io, bo) => some ((y, x), vc, r :: io, bo)
      | _, _ => none
    | some (.obox t' o []) => match castTy t' t (o.getD t'.dflt), bindP rs esc ps vs with
      | some y, some (x, vc, io, bo) => some ((y, x), (o.isSome = true) :: vc, r :: io, bo)
      | _, _ => none
    | _ => none
  | .obox t :: ps, .addr r [] :: vs => match look rs r with
    | some (.box t' y []) => match castTy t' t y, bindP rs esc ps vs with
      | some y, some (x, vc, io, bo) => some ((some y, x), vc, r :: io, bo)
      | _, _ => none
    | some (.obox t' o []) => match castTy (.ptr t') (.ptr t) o, bindP rs esc ps vs with
      | some o, some (x, vc, io, bo) => some (((o : Option t.den), x), vc, r :: io, bo)
      | _, _ => none
    | _ => none
  | .row t :: ps, .sl r :: vs => match look rs r with
    | some (.row t' ys []) => match castTy (.ro t') (.ro t) ys, bindP rs esc ps vs with
      | some y, some (x, vc, io, bo) => some (((y : List t.den), x), vc, r :: io, bo)
      | _, _ => none
    | _ => none
  | .mp k vt :: ps, .mp r :: vs => match look rs r with
    | some (.mp k' v' o []) => match castTy (.map k' v') (.map k vt) o, bindP rs esc ps vs with
      | some o, some (x, vc, io, bo) => some (((o : Option (List (k.den × vt.den))), x), vc, r :: io, bo)
      | _, _ => none
    | _ => none
  | _, _ => none

def oboxOr (rs : Regs) (r : Nat) (t : Ty) (o : Option t.den) : Reg :=
  match look rs r with
  | some (.box _ _ _) => .box t (o.getD t.dflt) []
  | _ => .obox t o []
def boxOr (t : Ty) (x : t.den) : Reg := .box t x []
def ioRegs (rs : Regs) : (ps : List PK) → outs ps → List Nat → List (Nat × Reg)
  | .v _ :: ps, y, ids => ioRegs rs ps y.2 ids
  | .nl :: ps, y, ids => ioRegs rs ps y.2 ids
  | .fn0 _ :: ps, y, ids => ioRegs rs ps y.2 ids
  | .fnr _ _ :: ps, y, ids => ioRegs rs ps y.2 ids
  | .ref _ :: ps, y, ids => ioRegs rs ps y.2 ids
  | .box t :: ps, y, r :: ids => (r, .box t y.1 []) :: ioRegs rs ps y.2 ids
  | .row t :: ps, y, r :: ids => (r, .row t y.1 []) :: ioRegs rs ps y.2 ids
  | .obox t :: ps, y, r :: ids => (r, oboxOr rs r t y.1) :: ioRegs rs ps y.2 ids
  | .mp k vt :: ps, y, r :: ids => (r, .mp k vt y.1 []) :: ioRegs rs ps y.2 ids
  | _, _, _ => []
def resVs : (rs : List RK) → rdens rs → Nat → List SV
  | [], _, _ => []
  | .v t :: rs, y, n => .val t y.1 :: resVs rs y.2 n
  | .row _ :: rs, y, n => .sl n :: resVs rs y.2 (n + 1)
  | .box _ :: rs, y, n => .addr n [] :: resVs rs y.2 (n + 1)
  | .obox _ :: rs, y, n => .addr n [] :: resVs rs y.2 (n + 1)
  | .vn t :: rs, y, n => .valn t y.1 :: resVs rs y.2 n
  | .mp _ _ :: rs, y, n => .mp n :: resVs rs y.2 (n + 1)
def resRegs : (rs : List RK) → rdens rs → Nat → List (Nat × Reg)
  | [], _, _ => []
  | .v _ :: rs, y, n => resRegs rs y.2 n
  | .row t :: rs, y, n => (n, .row t y.1 []) :: resRegs rs y.2 (n + 1)
  | .box t :: rs, y, n => (n, .box t y.1 []) :: resRegs rs y.2 (n + 1)
  | .obox t :: rs, y, n => (n, .obox t y.1 []) :: resRegs rs y.2 (n + 1)
  | .vn _ :: rs, y, n => resRegs rs y.2 n
  | .mp k vt :: rs, y, n => (n, .mp k vt y.1 []) :: resRegs rs y.2 (n + 1)
def freshCount (rs : List RK) : Nat := (rs.filter RK.fresh).length
def retAV : List SV → AV
  | [v] => .s v
  | vs => .tup vs
def nodupB : List Nat → Bool
  | [] => true
  | x :: xs => !xs.contains x && nodupB xs
theorem nodupB_spec : ∀ {l : List Nat}, nodupB l = true → l.Nodup
  | [], _ => List.nodup_nil
  | x :: xs, h => by
    simp only [nodupB, Bool.and_eq_true, Bool.not_eq_true', List.contains_eq_mem, decide_eq_false_iff_not] at h
    exact List.nodup_cons.2 ⟨h.1, nodupB_spec h.2⟩

/-- A call; rsC: the regions with what is only read shut, cl: the regions that this turned. -/
def callV (S : Summ) (rsC : Regs) (cl : List Nat) (n : Nat) (vs : List SV) : Option Out :=
  match bindP rsC S.esc S.par vs with
  | some (x, vc, io, bo) =>
    if nodupB io && bo.all (fun r => !io.contains r) && decide (freshCount S.res ≤ 8) && io.all (fun r => !cl.contains r) && (!S.esc || cl.isEmpty) then
      some (vc ++ [S.pre x], retAV (resVs S.res (S.fn x).1 n),
        (ioRegs rsC S.par (S.fn x).2 io).map (fun p => EffI.set (some p.1) p.1 p.2) ++ (resRegs S.res (S.fn x).1 n).map (fun p => EffI.set none p.1 p.2))
    else none
  | none => none

theorem Lay.good {cx : Cx} {φ : Phi} {rs : Regs} {w : World} (L : Lay cx φ rs w) {r : Nat} {g : Reg} (h : look rs r = some g) (hH : g.holes = []) : Good w (φ r) :=
  ⟨L.inj r g h, fun q => by
    cases hq : ((φ r) q).hd with
    | true => rfl
    | false => (obtain ⟨p, m, h1, _⟩ := L.told r g h q hq; rw [hH] at h1; cases h1), fun b hb => L.al r g b h hb⟩

theorem addr_off {φ : Phi} {r : Nat} {p : List Step} {v : Value} {g : Reg} {b : Nat} (h : addrRel φ r p v g) (hb : (φ r).blk = some b) : v = .pointer (some ⟨b, offR (φ r) g p, none⟩) := by
  have key : (p ≠ [] ∨ ∀ t o H, g ≠ .obox t o H) → v = .pointer (some ⟨b, offR (φ r) g p, none⟩) := fun hp => by
    obtain ⟨_, _, b', h1, h2⟩ := addr_place h hp
    rw [hb] at h1; cases h1; exact h2
  cases g with
  | obox t o H =>
    cases p with
    | nil =>
      rcases h with ⟨_, _, e3⟩ | ⟨b', _, e1, _, e3⟩
      · rw [e3, hb]; simp [offR, poff]
      · rw [hb] at e1; cases e1; exact e3
    | cons c p => exact key (.inl (by simp))
  | _ => exact key (.inr (fun _ _ _ e => by cases e))
/-- What the parameters' binding says of the machine. -/
theorem bindP_sound {cx : Cx} {φ : Phi} {st : St} {a : Act} {w : World} (R : RelF cx φ st a w) {esc : Bool} (ok okO : Nat → Prop) (hok : ∀ b, okOf st.regs φ b → ok b) :
    ∀ (ps : List PK) (vs : List SV) (Vs : List Value) (x : dens ps) (vc : List Prop) (io bo : List Nat), bindP st.regs esc ps vs = some (x, vc, io, bo) → (∀ p ∈ vc, p) →
      (∀ r ∈ bo, ∀ b, (φ r).has b → ok b) → (∀ r ∈ io, ∀ g, look st.regs r = some g → g.at okO w (φ r)) → All2 (SVRel st.regs φ (okOf st.regs φ) w) vs Vs →
      ∃ ls, PsRel ok okO w ps x Vs ls ∧ ioLocs ps ls = io.map φ ∧ (∀ r ∈ io, ∃ g, look st.regs r = some g ∧ g.holes = []) := by
  have L := R.lay
  intro ps
  induction ps with
  | nil =>
    intro vs Vs x vc io bo h _ _ _ hall
    cases hall with
    | nil =>
      simp only [bindP, Option.some.injEq, Prod.mk.injEq] at h
      obtain ⟨_, _, rfl, rfl⟩ := h
      exact ⟨[], ⟨rfl, rfl⟩, rfl, by simp⟩
    | cons _ _ => simp [bindP] at h
  | cons p ps ih =>
    intro vs Vs x vc io bo h hvc hbo hat hall
    cases hall with
    | nil => cases p <;> simp [bindP] at h
    | cons hv ht =>
      rename_i v V vs Vs
      have hokm : ∀ b o, okOf st.regs φ b → w.heap[b]? = some o → ok b ∧ w.heap[b]? = some o := fun b o h1 h2 => ⟨hok b h1, h2⟩
      -- a parameter that may be written
      have io1 : ∀ (p : PK) (y : p.den) (r : Nat) (g : Reg) (x' : dens ps) (vc' : List Prop) (io' bo' : List Nat), p.io = true → look st.regs r = some g → g.holes = [] → V = hdr (φ r) g → PRel ok okO w p y V (φ r) →
          bindP st.regs esc ps vs = some (x', vc', io', bo') → (∀ q ∈ vc', q) → (∀ s ∈ bo', ∀ b, (φ s).has b → ok b) → (∀ s ∈ io', s ∈ io) →
          ∃ ls, PsRel ok okO w (p :: ps) (y, x') (V :: Vs) ls ∧ ioLocs (p :: ps) ls = (r :: io').map φ ∧ ∀ s ∈ r :: io', ∃ g, look st.regs s = some g ∧ g.holes = [] := by
        intro p y r g x' vc' io' bo' hpio hl hH hV hP hb hvc' hbo' hsub
        obtain ⟨ls, h1, h2, h3⟩ := ih vs Vs x' vc' io' bo' hb hvc' hbo' (fun s hs => hat s (hsub s hs)) ht
        refine ⟨φ r :: ls, ⟨_, _, _, _, rfl, rfl, hP, h1⟩, by simp only [ioLocs, hpio, if_true, h2, List.map_cons], fun s hs => ?_⟩
        rcases List.mem_cons.1 hs with e | e
        · subst e; exact ⟨g, hl, hH⟩
        · exact h3 s e
      cases p with
      | v t =>
        simp only [bindP] at h
        split at h
        · rename_i y b x' vc' io' bo' hr hb
          cases h
          obtain ⟨ls, h1, h2, h3⟩ := ih vs Vs x' vc io bo' hb hvc (fun r hr => hbo r (List.mem_append_right _ hr)) hat ht
          refine ⟨mkSub none 0 0 :: ls, ⟨_, _, _, _, rfl, rfl, ?_, h1⟩, h2, h3⟩
          have hrd : ∀ (r : Nat) (τ : Ty) (xs : List τ.den), (∀ b', (φ r).has b' → ok b') → look st.regs r = some (.row τ xs []) → τ.plain = true → VRel ok w (.ro τ) xs (.slice (φ r).addr xs.length (φ r).cap) :=
            fun r τ xs hb' hl hpl => row_val L hl hpl ok hok fun b' h' => hb' b' (Sub.has_blk h')
          unfold readV at hr
          split at hr
          · rw [Option.map_eq_some_iff] at hr
            obtain ⟨z, hz, e⟩ := hr
            cases e
            obtain ⟨e1, e2⟩ := castTy_some hz
            subst e1; subst e2
            exact VRel.mono hokm hv
          · split at hr
            · cases hr
              have hV : V = .slice none 0 0 := hv
              subst hV
              exact ⟨⟨none, 0, rfl, Nat.le_refl _, .inl rfl⟩, rfl, rfl⟩
            · cases hr
          · rename_i r
            split at hr
            · cases hr
            · split at hr
              · rename_i τ
                split at hr
                · rename_i τ' xs hl
                  split at hr
                  · rename_i hpl
                    rw [Option.map_eq_some_iff] at hr
                    obtain ⟨z, hz, e⟩ := hr
                    cases e
                    obtain ⟨e1, e2⟩ := castTy_some hz
                    cases e1
                    subst e2
                    have hV := hv _ _ _ hl
                    subst hV
                    exact hrd r _ xs (fun b' h' => hbo r (List.mem_append_left _ (by simp)) b' h') hl hpl
                  · split at hr
                    · rename_i hro
                      rw [Option.map_eq_some_iff] at hr
                      obtain ⟨z, hz, e⟩ := hr
                      cases e
                      obtain ⟨e1, e2⟩ := castTy_some hz
                      cases e1
                      subst e2
                      have hV := hv _ _ _ hl
                      subst hV
                      have hbr := fun b' h' => hbo r (List.mem_append_left _ (by simp)) b' h'
                      have hgood := L.good hl rfl
                      have h0 : (Ty.own τ').rd (okOf st.regs φ) w (φ r) xs (fun j => (Value.slice (φ r).addr xs.length (φ r).cap).cells[j]?) := rd_own_iff.2 fun _ => ⟨rfl, L.rg r _ hl⟩
                      exact ⟨rd_ro hokm (.own τ') (φ r) xs _ hro hgood.hd hbr h0, rfl, rfl⟩
                    · cases hr
                · cases hr
              · cases hr
          · rename_i r lo hi
            split at hr
            · cases hr
            · split at hr
              · rename_i τ
                split at hr
                · rename_i τ' xs hl
                  split at hr
                  · rename_i hpl
                    rw [Option.map_eq_some_iff] at hr
                    obtain ⟨z, hz, e⟩ := hr
                    cases e
                    obtain ⟨e1, e2⟩ := castTy_some hz
                    cases e1
                    subst e2
                    have hbr := fun b' h' => hbo r (List.mem_append_left _ (by simp)) b' h'
                    have hro : rowOf st.regs (.slv r lo hi) = some ⟨_, (xs.take hi.toNat).drop lo.toNat⟩ := by simp only [rowOf, hl, hpl, if_true]
                    obtain ⟨ad, cap, hX, hc, hh⟩ := rowOf_sound R hro hv
                    subst hX
                    refine ⟨⟨ad, cap, rfl, hc, ?_⟩, rfl, rfl⟩
                    rcases hh with hh | ⟨b, off, cs, ty, fz, m1, m2, m3⟩
                    · exact .inl hh
                    · right
                      obtain ⟨_, _, _, o, cap', hX, _⟩ := hv _ _ _ hl
                      have hb : (φ r).blk = some b := by
                        cases hbl : (φ r).blk with
                        | none => rw [hbl] at hX; rw [m1] at hX; simp at hX
                        | some b0 => rw [hbl, m1] at hX; simp at hX; rw [hX.1.1]
                      exact ⟨b, off, cs, ty, fz, m1, hbr b (Sub.has_blk hb), m2, fun i hi => Ty.rd_mono hokm _ _ _ (m3 i hi)⟩
                  · cases hr
                · cases hr
              · cases hr
          · cases hr
        · cases h
      | nl =>
        cases v <;> simp only [bindP] at h <;> try (cases h; done)
        split at h
        · rename_i x' vc' io' bo' hb
          cases h
          obtain ⟨ls, h1, h2, h3⟩ := ih vs Vs x' vc io bo hb hvc hbo hat ht
          exact ⟨mkSub none 0 0 :: ls, ⟨_, _, _, _, rfl, rfl, hv, h1⟩, h2, h3⟩
        · cases h
      | fn0 f =>
        cases v <;> simp only [bindP] at h <;> try (cases h; done)
        split at h
        · rename_i hfg
          subst hfg
          split at h
          · rename_i x' vc' io' bo' hb
            cases h
            obtain ⟨ls, h1, h2, h3⟩ := ih vs Vs x' vc io bo hb hvc hbo hat ht
            exact ⟨mkSub none 0 0 :: ls, ⟨_, _, _, _, rfl, rfl, hv, h1⟩, h2, h3⟩
          · cases h
        · cases h
      | fnr f t =>
        cases v <;> simp only [bindP] at h <;> try (cases h; done)
        · rename_i g0 r p
          split at h
          · rename_i hfg
            subst hfg
            split at h
            · rename_i y vc1 b x' vc' io' bo' hr hb
              cases h
              obtain ⟨ls, h1, h2, h3⟩ := ih vs Vs x' vc' io bo' hb (fun q hq => hvc q (List.mem_append_right _ hq)) (fun r hr => hbo r (List.mem_append_right _ hr)) hat ht
              refine ⟨mkSub none 0 0 :: ls, ⟨_, _, _, _, rfl, rfl, ?_, h1⟩, h2, h3⟩
              obtain ⟨pv, hpv, hv⟩ := hv
              simp only [readA] at hr
              split at hr
              · cases hr
              · split at hr
                · rename_i g hl
                  split at hr
                  · rename_i hgc
                    obtain ⟨hgh, hgc⟩ := hgc
                    have hgh : g.holes = [] := by simpa using hgh
                    split at hr
                    · rename_i u hu
                      split at hr
                      · rename_i hro
                        split at hr
                        · rename_i y0 hy0
                          rw [Option.map_eq_some_iff] at hr
                          obtain ⟨z, hz, e⟩ := hr
                          cases e
                          obtain ⟨e1, e2⟩ := castTy_some hz
                          subst e1; subst e2
                          have hpok := pokVC_spec hu hgc (fun P hP => hvc P (List.mem_append_left _ hP))
                          obtain ⟨b, cs, ty, fz, f1, f2, f3, f4, f5, _⟩ := place_of (L.rg r g hl) hpok hu hgc
                          have hgood := L.good hl hgh
                          have hV : pv = .pointer (some ⟨b, offR (φ r) g p, none⟩) := addr_off (hv g hl) f1
                          refine ⟨b, _, cs, ty, fz, by rw [hpv, hV], hbo r (List.mem_append_left _ (by simp)) b (Sub.has_blk f1), f2, ?_⟩
                          exact rd_ro hokm u _ y0 _ hro (fun q => hgood.hd _) (fun b' hb' => hbo r (List.mem_append_left _ (by simp)) b' (at_has hb')) (f5 y0 hy0)
                        · cases hr
                      · cases hr
                    · cases hr
                  · cases hr
                · cases hr
            · cases h
          · cases h
        · rename_i g0 u y0
          split at h
          · rename_i hfg
            subst hfg
            split at h
            · rename_i y x' vc' io' bo' hr hb
              cases h
              obtain ⟨ls, h1, h2, h3⟩ := ih vs Vs x' vc io bo hb hvc hbo hat ht
              refine ⟨mkSub none 0 0 :: ls, ⟨_, _, _, _, rfl, rfl, ?_, h1⟩, h2, h3⟩
              obtain ⟨e1, e2⟩ := castTy_some hr
              subst e1; subst e2
              obtain ⟨b, o, cs, ty, fz, k1, k2, k3, k4⟩ := hv
              exact ⟨b, o, cs, ty, fz, k1, hok b k2, k3, Ty.rd_mono hokm _ _ _ k4⟩
            · cases h
          · cases h
      | ref t =>
        simp only [bindP] at h
        split at h
        · rename_i y vc1 b x' vc' io' bo' hr hb
          cases h
          obtain ⟨ls, h1, h2, h3⟩ := ih vs Vs x' vc' io bo' hb (fun q hq => hvc q (List.mem_append_right _ hq)) (fun r hr => hbo r (List.mem_append_right _ hr)) hat ht
          refine ⟨mkSub none 0 0 :: ls, ⟨_, _, _, _, rfl, rfl, ?_, h1⟩, h2, h3⟩
          unfold readA at hr
          split at hr
          · rw [Option.map_eq_some_iff] at hr
            obtain ⟨z, hz, e⟩ := hr
            cases e
            obtain ⟨e1, e2⟩ := castTy_some hz
            subst e1; subst e2
            obtain ⟨b, o, cs, ty, fz, k1, k2, k3, k4⟩ := hv
            exact ⟨b, o, cs, ty, fz, k1, hok b k2, k3, Ty.rd_mono hokm _ _ _ k4⟩
          · rename_i r p
            split at hr
            · cases hr
            · split at hr
              · rename_i g hl
                split at hr
                · rename_i hgc
                  obtain ⟨hgh, hgc⟩ := hgc
                  have hgh : g.holes = [] := by simpa using hgh
                  split at hr
                  · rename_i u hu
                    split at hr
                    · rename_i hro
                      split at hr
                      · rename_i y0 hy0
                        rw [Option.map_eq_some_iff] at hr
                        obtain ⟨z, hz, e⟩ := hr
                        cases e
                        obtain ⟨e1, e2⟩ := castTy_some hz
                        subst e1; subst e2
                        have hpok := pokVC_spec hu hgc (fun P hP => hvc P (List.mem_append_left _ hP))
                        obtain ⟨b, cs, ty, fz, f1, f2, f3, f4, f5, _⟩ := place_of (L.rg r g hl) hpok hu hgc
                        have hgood := L.good hl hgh
                        have hV : V = .pointer (some ⟨b, offR (φ r) g p, none⟩) := addr_off (hv g hl) f1
                        refine ⟨b, _, cs, ty, fz, hV, hbo r (List.mem_append_left _ (by simp)) b (Sub.has_blk f1), f2, ?_⟩
                        exact rd_ro hokm u _ y0 _ hro (fun q => hgood.hd _) (fun b' hb' => hbo r (List.mem_append_left _ (by simp)) b' (at_has hb')) (f5 y0 hy0)
                      · cases hr
                    · cases hr
                  · cases hr
                · cases hr
              · cases hr
          · cases hr
        · cases h
      | box t =>
        cases v <;> (try simp only [bindP] at h) <;> try (cases h; done)
        rename_i r p
        cases p <;> (try simp only [bindP] at h) <;> try (cases h; done)
        split at h
        · rename_i t' y hl
          split at h
          · rename_i y' x' vc' io' bo' hc hb
            cases h
            obtain ⟨e1, e2⟩ := castTy_some hc
            subst e1; subst e2
            obtain ⟨b, k1, _, k3⟩ := hv _ hl
            have hV : V = hdr (φ r) (.box t' y []) := by rw [k3]; simp [hdr, k1, poff]
            exact io1 (.box t') y r _ x' vc io' bo rfl hl rfl hV ⟨hat r (List.mem_cons_self ..) _ hl, L.good hl rfl, hV⟩ hb hvc hbo fun s hs => List.mem_cons_of_mem _ hs
          · cases h
        · rename_i t' o hl
          split at h
          · rename_i y' x' vc' io' bo' hc hb
            cases h
            obtain ⟨e1, e2⟩ := castTy_some hc
            subst e1; subst e2
            have ho : o.isSome = true := hvc _ (List.mem_cons_self ..)
            obtain ⟨z, rfl⟩ := Option.isSome_iff_exists.1 ho
            have hV : V = hdr (φ r) (.obox t' (some z) []) := (obox_root (hv _ hl)).2
            exact io1 (.box t') z r _ x' vc' io' bo rfl hl rfl hV ⟨(by have := hat r (List.mem_cons_self ..) _ hl; exact this), L.good hl rfl, hV⟩ hb (fun q hq => hvc q (List.mem_cons_of_mem _ hq)) hbo fun s hs => List.mem_cons_of_mem _ hs
          · cases h
        · cases h
      | obox t =>
        cases v <;> (try simp only [bindP] at h) <;> try (cases h; done)
        rename_i r p
        cases p <;> (try simp only [bindP] at h) <;> try (cases h; done)
        split at h
        · rename_i t' y hl
          split at h
          · rename_i y' x' vc' io' bo' hc hb
            cases h
            obtain ⟨e1, e2⟩ := castTy_some hc
            subst e1; subst e2
            obtain ⟨b, k1, _, k3⟩ := hv _ hl
            have hV : V = hdr (φ r) (.box t' y []) := by rw [k3]; simp [hdr, k1, poff]
            exact io1 (.obox t') (some y) r _ x' vc io' bo rfl hl rfl hV ⟨(by have := hat r (List.mem_cons_self ..) _ hl; exact this), L.good hl rfl, hV⟩ hb hvc hbo fun s hs => List.mem_cons_of_mem _ hs
          · cases h
        · rename_i t' o hl
          split at h
          · rename_i y' x' vc' io' bo' hc hb
            cases h
            obtain ⟨e1, e2⟩ := castTy_some hc
            cases e1; subst e2
            have hV : V = hdr (φ r) (.obox t o []) := (obox_root (hv _ hl)).2
            exact io1 (.obox t) o r _ x' vc io' bo rfl hl rfl hV ⟨hat r (List.mem_cons_self ..) _ hl, L.good hl rfl, hV⟩ hb hvc hbo fun s hs => List.mem_cons_of_mem _ hs
          · cases h
        · cases h
      | row t =>
        cases v <;> simp only [bindP] at h <;> try (cases h; done)
        rename_i r
        split at h
        · rename_i t' ys hl
          split at h
          · rename_i y' x' vc' io' bo' hc hb
            cases h
            obtain ⟨e1, e2⟩ := castTy_some hc
            cases e1; subst e2
            have hV : V = hdr (φ r) (.row t ys []) := hv _ _ _ hl
            exact io1 (.row t) ys r _ x' vc io' bo rfl hl rfl hV ⟨hat r (List.mem_cons_self ..) _ hl, L.good hl rfl, hV⟩ hb hvc hbo fun s hs => List.mem_cons_of_mem _ hs
          · cases h
        · cases h
      | mp k vt =>
        cases v <;> simp only [bindP] at h <;> try (cases h; done)
        rename_i r
        split at h
        · rename_i k' v' o hl
          split at h
          · rename_i y' x' vc' io' bo' hc hb
            cases h
            obtain ⟨e1, e2⟩ := castTy_some hc
            cases e1; subst e2
            have hV : V = hdr (φ r) (.mp k vt o []) := hv _ _ _ _ hl
            exact io1 (.mp k vt) o r _ x' vc io' bo rfl hl rfl hV ⟨hat r (List.mem_cons_self ..) _ hl, L.good hl rfl, hV⟩ hb hvc hbo fun s hs => List.mem_cons_of_mem _ hs
          · cases h
        · cases h

end Go.Lift
/- A call told by a summary: soundness. -/
namespace Go.Lift
open Go

theorem bindP_bo {rs : Regs} {esc : Bool} : ∀ (ps : List PK) (vs : List SV) (x : dens ps) (vc : List Prop) (io bo : List Nat), bindP rs esc ps vs = some (x, vc, io, bo) → ∀ r ∈ bo, esc = false ∧ ∃ g, look rs r = some g := by
  intro ps
  induction ps with
  | nil =>
    intro vs x vc io bo h r hr
    cases vs with
    | nil =>
      simp only [bindP, Option.some.injEq, Prod.mk.injEq] at h
      obtain ⟨_, _, _, rfl⟩ := h
      cases hr
    | cons _ _ => simp [bindP] at h
  | cons p ps ih =>
    intro vs x vc io bo h r hr
    have key : ∀ (t : Ty) (v : SV) (y : t.den) (b : Option Nat), readV rs esc v t = some (y, b) → b = some r → esc = false ∧ ∃ g, look rs r = some g := by
      intro t v y b h hb
      subst hb
      have he : ∀ {α : Type} {z : Option α} {o : α}, (if esc = true then none else z) = some o → esc = false ∧ z = some o := by
        intro α z o h
        split at h
        · cases h
        · rename_i h0; exact ⟨by simpa using h0, h⟩
      unfold readV at h
      split at h
      · rw [Option.map_eq_some_iff] at h; obtain ⟨_, _, e⟩ := h; cases e
      · split at h <;> cases h
      · obtain ⟨h0, h⟩ := he h
        refine ⟨h0, ?_⟩
        split at h
        · split at h
          · rename_i hl
            split at h
            · rw [Option.map_eq_some_iff] at h; obtain ⟨_, _, e⟩ := h; cases e; exact ⟨_, hl⟩
            · split at h
              · rw [Option.map_eq_some_iff] at h; obtain ⟨_, _, e⟩ := h; cases e; exact ⟨_, hl⟩
              · cases h
          · cases h
        · cases h
      · obtain ⟨h0, h⟩ := he h
        refine ⟨h0, ?_⟩
        split at h
        · split at h
          · rename_i hl
            split at h
            · rw [Option.map_eq_some_iff] at h; obtain ⟨_, _, e⟩ := h; cases e; exact ⟨_, hl⟩
            · cases h
          · cases h
        · cases h
      · cases h
    cases vs with
    | nil => cases p <;> simp [bindP] at h
    | cons v vs =>
      cases p with
      | v t =>
        simp only [bindP] at h
        split at h
        · rename_i hr1 hb
          cases h
          rcases List.mem_append.1 hr with hm | hm
          · exact key _ _ _ _ hr1 (by simpa using hm)
          · exact ih _ _ _ _ _ hb r hm
        · cases h
      | ref t =>
        simp only [bindP] at h
        split at h
        · rename_i hr1 hb
          cases h
          rcases List.mem_append.1 hr with hm | hm
          · unfold readA at hr1
            split at hr1
            · rw [Option.map_eq_some_iff] at hr1; obtain ⟨_, _, e⟩ := hr1; cases e; simp at hm
            · rename_i r0 p0
              split at hr1
              · cases hr1
              · rename_i h0
                split at hr1
                · rename_i g hl
                  split at hr1
                  · split at hr1
                    · split at hr1
                      · split at hr1
                        · rw [Option.map_eq_some_iff] at hr1
                          obtain ⟨_, _, e⟩ := hr1
                          cases e
                          have : r = r0 := by simpa using hm
                          subst this
                          exact ⟨by simpa using h0, g, hl⟩
                        · cases hr1
                      · cases hr1
                    · cases hr1
                  · cases hr1
                · cases hr1
            · cases hr1
          · exact ih _ _ _ _ _ hb r hm
        · cases h
      | fnr f t =>
        cases v <;> simp only [bindP] at h <;> try (cases h; done)
        · split at h
          · split at h
            · rename_i hr1 hb
              cases h
              rcases List.mem_append.1 hr with hm | hm
              · simp only [readA] at hr1
                split at hr1
                · cases hr1
                · rename_i h0
                  split at hr1
                  · rename_i g hl
                    split at hr1
                    · split at hr1
                      · split at hr1
                        · split at hr1
                          · rw [Option.map_eq_some_iff] at hr1
                            obtain ⟨_, _, e⟩ := hr1
                            cases e
                            simp only [Option.toList_some, List.mem_singleton] at hm
                            subst hm
                            exact ⟨by simpa using h0, g, hl⟩
                          · cases hr1
                        · cases hr1
                      · cases hr1
                    · cases hr1
                  · cases hr1
              · exact ih _ _ _ _ _ hb r hm
            · cases h
          · cases h
        · split at h
          · split at h
            · rename_i hb; cases h; exact ih _ _ _ _ _ hb r hr
            · cases h
          · cases h
      | nl =>
        cases v <;> simp only [bindP] at h <;> try (cases h; done)
        split at h
        · rename_i hb; cases h; exact ih _ _ _ _ _ hb r hr
        · cases h
      | fn0 f =>
        cases v <;> simp only [bindP] at h <;> try (cases h; done)
        split at h
        · split at h
          · rename_i hb; cases h; exact ih _ _ _ _ _ hb r hr
          · cases h
        · cases h
      | box t =>
        cases v <;> (try simp only [bindP] at h) <;> try (cases h; done)
        rename_i r p
        cases p <;> (try simp only [bindP] at h) <;> try (cases h; done)
        split at h
        · split at h
          · rename_i hb; cases h; exact ih _ _ _ _ _ hb _ hr
          · cases h
        · split at h
          · rename_i hb; cases h; exact ih _ _ _ _ _ hb _ hr
          · cases h
        · cases h
      | obox t =>
        cases v <;> (try simp only [bindP] at h) <;> try (cases h; done)
        rename_i r p
        cases p <;> (try simp only [bindP] at h) <;> try (cases h; done)
        split at h
        · split at h
          · rename_i hb; cases h; exact ih _ _ _ _ _ hb _ hr
          · cases h
        · split at h
          · rename_i hb; cases h; exact ih _ _ _ _ _ hb _ hr
          · cases h
        · cases h
      | row t =>
        cases v <;> (try simp only [bindP] at h) <;> try (cases h; done)
        split at h
        · split at h
          · rename_i hb; cases h; exact ih _ _ _ _ _ hb _ hr
          · cases h
        · cases h
      | mp k vt =>
        cases v <;> (try simp only [bindP] at h) <;> try (cases h; done)
        split at h
        · split at h
          · rename_i hb; cases h; exact ih _ _ _ _ _ hb _ hr
          · cases h
        · cases h

/-- The written regions, as they are afterwards. -/
theorem ioRegs_sound {rs : Regs} {esc : Bool} {φ : Phi} {ok : Nat → Prop} {w : World} : ∀ (ps : List PK) (vs : List SV) (x : dens ps) (vc : List Prop) (io bo : List Nat) (y : outs ps) (ls' : List Sub), bindP rs esc ps vs = some (x, vc, io, bo) → (∀ p ∈ vc, p) →
    KindRel ps x y → OutRel ok w ps y ls' → (ioRegs rs ps y io).map (·.1) = io ∧ ls'.length = io.length ∧
      ∀ (i : Nat) (r : Nat) (g' : Reg), (ioRegs rs ps y io)[i]? = some (r, g') → g'.holes = [] ∧ (∃ g, look rs r = some g ∧ SameKind g g') ∧ ∃ l, ls'[i]? = some l ∧ g'.at ok w l := by
  intro ps
  induction ps with
  | nil =>
    intro vs x vc io bo y ls' h _ _ ho
    cases vs with
    | nil =>
      simp only [bindP, Option.some.injEq, Prod.mk.injEq] at h
      obtain ⟨_, _, rfl, _⟩ := h
      have ho : ls' = [] := ho
      subst ho
      exact ⟨rfl, rfl, fun i r g' h => by simp [ioRegs] at h⟩
    | cons _ _ => simp [bindP] at h
  | cons p ps ih =>
    intro vs x vc io bo y ls' h hvc hk ho
    have io1 : ∀ (r : Nat) (g g' : Reg) (x' : dens ps) (vs' : List SV) (vc' : List Prop) (io' bo' : List Nat) (l : Sub) (ls'' : List Sub), ls' = l :: ls'' → io = r :: io' → ioRegs rs (p :: ps) y io = (r, g') :: ioRegs rs ps y.2 io' →
        bindP rs esc ps vs' = some (x', vc', io', bo') → (∀ q ∈ vc', q) → KindRel ps x' y.2 → OutRel ok w ps y.2 ls'' → look rs r = some g → SameKind g g' → g'.holes = [] → g'.at ok w l →
        (ioRegs rs (p :: ps) y io).map (·.1) = io ∧ ls'.length = io.length ∧
          ∀ (i : Nat) (r : Nat) (g' : Reg), (ioRegs rs (p :: ps) y io)[i]? = some (r, g') → g'.holes = [] ∧ (∃ g, look rs r = some g ∧ SameKind g g') ∧ ∃ l, ls'[i]? = some l ∧ g'.at ok w l := by
      intro r g g' x' vs' vc' io' bo' l ls'' e1 e2 e3 hb hvc' hk' ho' hl hsk hH hat
      obtain ⟨h1, h2, h3⟩ := ih vs' x' vc' io' bo' y.2 ls'' hb hvc' hk' ho'
      rw [e3]
      refine ⟨by rw [List.map_cons, h1, e2], by rw [e1, e2, List.length_cons, List.length_cons, h2], fun i r0 g0 hi => ?_⟩
      cases i with
      | zero =>
        simp only [List.getElem?_cons_zero, Option.some.injEq, Prod.mk.injEq] at hi
        obtain ⟨rfl, rfl⟩ := hi
        exact ⟨hH, ⟨g, hl, hsk⟩, l, by rw [e1]; rfl, hat⟩
      | succ i =>
        rw [List.getElem?_cons_succ] at hi
        obtain ⟨k1, k2, k3⟩ := h3 i r0 g0 hi
        exact ⟨k1, k2, by rw [e1]; simpa using k3⟩
    cases vs with
    | nil => cases p <;> simp [bindP] at h
    | cons v vs =>
      cases p with
      | v t =>
        simp only [bindP] at h
        split at h
        · rename_i hb
          cases h
          exact ih _ _ _ _ _ y.2 ls' hb hvc hk ho
        · cases h
      | ref t =>
        simp only [bindP] at h
        split at h
        · rename_i hb
          cases h
          exact ih _ _ _ _ _ y.2 ls' hb (fun q hq => hvc q (List.mem_append_right _ hq)) hk ho
        · cases h
      | fnr f t =>
        cases v <;> simp only [bindP] at h <;> try (cases h; done)
        · split at h
          · split at h
            · rename_i hb
              cases h
              exact ih _ _ _ _ _ y.2 ls' hb (fun q hq => hvc q (List.mem_append_right _ hq)) hk ho
            · cases h
          · cases h
        · split at h
          · split at h
            · rename_i hb
              cases h
              exact ih _ _ _ _ _ y.2 ls' hb hvc hk ho
            · cases h
          · cases h
      | nl =>
        cases v <;> simp only [bindP] at h <;> try (cases h; done)
        split at h
        · rename_i hb
          cases h
          exact ih _ _ _ _ _ y.2 ls' hb hvc hk ho
        · cases h
      | fn0 f =>
        cases v <;> simp only [bindP] at h <;> try (cases h; done)
        split at h
        · split at h
          · rename_i hb
            cases h
            exact ih _ _ _ _ _ y.2 ls' hb hvc hk ho
          · cases h
        · cases h
      | box t =>
        obtain ⟨l, ls'', e1, hat, ho'⟩ := ho
        cases v <;> (try simp only [bindP] at h) <;> try (cases h; done)
        rename_i r p
        cases p <;> (try simp only [bindP] at h) <;> try (cases h; done)
        split at h
        · rename_i t' y0 hl
          split at h
          · rename_i hc hb
            cases h
            obtain ⟨e2, _⟩ := castTy_some hc
            subst e2
            exact io1 r _ (.box t' y.1 []) _ vs _ _ _ l ls'' e1 rfl rfl hb hvc hk ho' hl rfl rfl hat
          · cases h
        · rename_i t' o hl
          split at h
          · rename_i hc hb
            cases h
            obtain ⟨e2, _⟩ := castTy_some hc
            subst e2
            have hs : o.isSome = true := hvc _ (List.mem_cons_self ..)
            obtain ⟨z, rfl⟩ := Option.isSome_iff_exists.1 hs
            exact io1 r _ (.box t' y.1 []) _ vs _ _ _ l ls'' e1 rfl rfl hb (fun q hq => hvc q (List.mem_cons_of_mem _ hq)) hk ho' hl rfl rfl hat
          · cases h
        · cases h
      | obox t =>
        obtain ⟨l, ls'', e1, hat, ho'⟩ := ho
        obtain ⟨hk1, hk2⟩ := hk
        cases v <;> (try simp only [bindP] at h) <;> try (cases h; done)
        rename_i r p
        cases p <;> (try simp only [bindP] at h) <;> try (cases h; done)
        split at h
        · rename_i t' y0 hl
          split at h
          · rename_i hc hb
            cases h
            obtain ⟨e2, _⟩ := castTy_some hc
            subst e2
            have hs : Option.isSome y.1 = true := by rw [hk1]; rfl
            obtain ⟨z, hz⟩ := Option.isSome_iff_exists.1 hs
            have e3 : oboxOr rs r t' y.1 = .box t' z [] := by simp [oboxOr, hl, hz]
            refine io1 r _ (oboxOr rs r t' y.1) _ vs _ _ _ l ls'' e1 rfl rfl hb hvc hk2 ho' hl (by rw [e3]; rfl) (by rw [e3]; rfl) ?_
            rw [e3]
            rw [hz] at hat
            exact hat
          · cases h
        · rename_i t' o hl
          split at h
          · rename_i hc hb
            cases h
            obtain ⟨e2, e4⟩ := castTy_some hc
            cases e2; subst e4
            have e3 : oboxOr rs r t y.1 = .obox t y.1 [] := by simp [oboxOr, hl]
            refine io1 r _ (oboxOr rs r t y.1) _ vs _ _ _ l ls'' e1 rfl rfl hb hvc hk2 ho' hl (by rw [e3]; cases o <;> cases hy : y.1 <;> first | exact ⟨rfl, rfl⟩ | (rw [hy] at hk1; cases hk1)) (by rw [e3]; rfl) (by rw [e3]; exact hat)
          · cases h
        · cases h
      | row t =>
        obtain ⟨l, ls'', e1, hat, ho'⟩ := ho
        obtain ⟨hk1, hk2⟩ := hk
        cases v <;> (try simp only [bindP] at h) <;> try (cases h; done)
        rename_i r
        split at h
        · rename_i t' ys hl
          split at h
          · rename_i hc hb
            cases h
            obtain ⟨e2, e4⟩ := castTy_some hc
            cases e2; subst e4
            exact io1 r _ (.row t y.1 []) _ vs _ _ _ l ls'' e1 rfl rfl hb hvc hk2 ho' hl ⟨rfl, hk1.symm⟩ rfl hat
          · cases h
        · cases h
      | mp k vt =>
        obtain ⟨l, ls'', e1, hat, ho'⟩ := ho
        cases v <;> (try simp only [bindP] at h) <;> try (cases h; done)
        rename_i r
        split at h
        · rename_i k' v' o hl
          split at h
          · rename_i hc hb
            cases h
            obtain ⟨e2, e4⟩ := castTy_some hc
            cases e2; subst e4
            exact io1 r _ (.mp k vt y.1 []) _ vs _ _ _ l ls'' e1 rfl rfl hb hvc hk ho' hl ⟨rfl, rfl⟩ rfl hat
          · cases h
        · cases h

theorem retAV_sound {R : Regs} {φ : Phi} {ok : Nat → Prop} {w : World} {xs : List SV} {vs : List Value} (h : All2 (SVRel R φ ok w) xs vs) : AVRel R φ ok w (retAV xs) (retVal vs) := by
  cases h with
  | nil => exact ⟨#[], rfl, .nil⟩
  | cons h1 h2 =>
    cases h2 with
    | nil => exact h1
    | cons h3 h4 => exact ⟨_, rfl, .cons h1 (.cons h3 h4)⟩

/-- The results' regions. -/
theorem resRegs_sound {ok : Nat → Prop} {w : World} : ∀ (rs : List RK) (y : rdens rs) (n : Nat) (vs : List Value) (rl : List Sub), RsRel ok w rs y vs rl →
    (resRegs rs y n).length = rl.length ∧ rl.length = freshCount rs ∧ ∀ (i : Nat) (r : Nat) (g : Reg), (resRegs rs y n)[i]? = some (r, g) → r = n + i ∧ g.holes = [] ∧ ∃ l, rl[i]? = some l ∧ g.at ok w l := by
  intro rs
  induction rs with
  | nil =>
    intro y n vs rl h
    obtain ⟨_, rfl⟩ := h
    exact ⟨rfl, rfl, fun i r g h => by simp [resRegs] at h⟩
  | cons k rs ih =>
    intro y n vs rl h
    have key : ∀ (g : Reg) (l : Sub) (vs' : List Value) (rl' : List Sub), rl = l :: rl' → k.fresh = true → resRegs (k :: rs) y n = (n, g) :: resRegs rs y.2 (n + 1) → g.holes = [] → g.at ok w l → RsRel ok w rs y.2 vs' rl' →
        (resRegs (k :: rs) y n).length = rl.length ∧ rl.length = freshCount (k :: rs) ∧ ∀ (i : Nat) (r : Nat) (g : Reg), (resRegs (k :: rs) y n)[i]? = some (r, g) → r = n + i ∧ g.holes = [] ∧ ∃ l, rl[i]? = some l ∧ g.at ok w l := by
      intro g l vs' rl' e1 e2 e3 hH hat hr
      obtain ⟨h1, h2, h3⟩ := ih y.2 (n + 1) vs' rl' hr
      rw [e3, e1]
      refine ⟨by simp [h1], by rw [List.length_cons, h2]; simp [freshCount, e2], fun i r g0 hi => ?_⟩
      cases i with
      | zero =>
        simp only [List.getElem?_cons_zero, Option.some.injEq, Prod.mk.injEq] at hi
        obtain ⟨rfl, rfl⟩ := hi
        exact ⟨rfl, hH, l, rfl, hat⟩
      | succ i =>
        rw [List.getElem?_cons_succ] at hi
        obtain ⟨k1, k2, k3⟩ := h3 i r g0 hi
        exact ⟨by omega, k2, by simpa using k3⟩
    cases k with
    | v t =>
      obtain ⟨v, vs', rfl, _, hr⟩ := h
      have := ih y.2 n vs' rl hr
      exact this
    | vn t =>
      obtain ⟨v, vs', rfl, _, hr⟩ := h
      have := ih y.2 n vs' rl hr
      exact this
    | row t => obtain ⟨v, vs', l, ls', rfl, e, ⟨h1, h2⟩, hr⟩ := h; exact key (.row t y.1 []) l vs' ls' e rfl rfl rfl h1 hr
    | box t => obtain ⟨v, vs', l, ls', rfl, e, ⟨h1, h2⟩, hr⟩ := h; exact key (.box t y.1 []) l vs' ls' e rfl rfl rfl h1 hr
    | obox t => obtain ⟨v, vs', l, ls', rfl, e, ⟨h1, h2⟩, hr⟩ := h; exact key (.obox t y.1 []) l vs' ls' e rfl rfl rfl h1 hr
    | mp k vt => obtain ⟨v, vs', l, ls', rfl, e, ⟨h1, h2⟩, hr⟩ := h; exact key (.mp k vt y.1 []) l vs' ls' e rfl rfl rfl h1 hr
/-- The results' values. -/
theorem resVs_sound {cx : Cx} {ok ok' : Nat → Prop} {w : World} {R : Regs} {φ : Phi} (L : Lay cx φ R w) (hm : ∀ b o, ok b → w.heap[b]? = some o → ok' b ∧ w.heap[b]? = some o) : ∀ (rs : List RK) (y : rdens rs) (n : Nat) (vs : List Value) (rl : List Sub), RsRel ok w rs y vs rl →
    (∀ (i : Nat) (r : Nat) (g : Reg), (resRegs rs y n)[i]? = some (r, g) → look R r = some g ∧ ∃ l, rl[i]? = some l ∧ φ r = l) → All2 (SVRel R φ ok' w) (resVs rs y n) vs := by
  intro rs
  induction rs with
  | nil =>
    intro y n vs rl h _
    obtain ⟨rfl, _⟩ := h
    exact .nil
  | cons k rs ih =>
    intro y n vs rl h hC
    have key : ∀ (g : Reg) (v : Value) (l : Sub) (vs' : List Value) (rl' : List Sub), vs = v :: vs' → rl = l :: rl' → resRegs (k :: rs) y n = (n, g) :: resRegs rs y.2 (n + 1) → v = hdr l g → RsRel ok w rs y.2 vs' rl' →
        (∀ g', look R n = some g' → v = hdr (φ n) g') ∧ look R n = some g ∧ All2 (SVRel R φ ok' w) (resVs rs y.2 (n + 1)) vs' := by
      intro g v l vs' rl' e0 e1 e3 hv hr
      rw [e3] at hC
      obtain ⟨h1, l0, h2, h3⟩ := hC 0 n g rfl
      rw [e1] at h2
      simp only [List.getElem?_cons_zero, Option.some.injEq] at h2
      subst h2
      refine ⟨fun g' hg' => ?_, h1, ih y.2 (n + 1) vs' rl' hr fun i r g0 hi => ?_⟩
      · rw [h1] at hg'; cases hg'; rw [hv, h3]
      · obtain ⟨k1, l1, k2, k3⟩ := hC (i + 1) r g0 (by rw [List.getElem?_cons_succ]; exact hi)
        exact ⟨k1, l1, by rw [e1] at k2; simpa using k2, k3⟩
    cases k with
    | v t =>
      obtain ⟨v, vs', rfl, hv, hr⟩ := h
      exact .cons (VRel.mono hm hv) (ih y.2 n vs' rl hr hC)
    | vn t =>
      obtain ⟨v, vs', rfl, hv, hr⟩ := h
      exact .cons ⟨VRel.mono hm hv.1, hv.2⟩ (ih y.2 n vs' rl hr hC)
    | row t =>
      obtain ⟨v, vs', l, ls', rfl, e, ⟨h1, h2⟩, hr⟩ := h
      obtain ⟨k1, k2, k3⟩ := key (.row t y.1 []) v l vs' ls' rfl e rfl h2 hr
      exact .cons (hdr_rel L k1).1 k3
    | box t =>
      obtain ⟨v, vs', l, ls', rfl, e, ⟨h1, h2⟩, hr⟩ := h
      obtain ⟨k1, k2, k3⟩ := key (.box t y.1 []) v l vs' ls' rfl e rfl h2 hr
      exact .cons ((hdr_rel L k1).2.1 (fun _ _ _ e => by rw [k2] at e; cases e) (fun _ _ _ _ e => by rw [k2] at e; cases e)) k3
    | obox t =>
      obtain ⟨v, vs', l, ls', rfl, e, ⟨h1, h2⟩, hr⟩ := h
      obtain ⟨k1, k2, k3⟩ := key (.obox t y.1 []) v l vs' ls' rfl e rfl h2 hr
      exact .cons ((hdr_rel L k1).2.1 (fun _ _ _ e => by rw [k2] at e; cases e) (fun _ _ _ _ e => by rw [k2] at e; cases e)) k3
    | mp k vt =>
      obtain ⟨v, vs', l, ls', rfl, e, ⟨h1, h2⟩, hr⟩ := h
      obtain ⟨k1, k2, k3⟩ := key (.mp k vt y.1 []) v l vs' ls' rfl e rfl h2 hr
      exact .cons (hdr_rel L k1).2.2 k3

/-- Regions and their places. -/
def chgs : List (Nat × Reg) → List Sub → List Chg
  | p :: ps, l :: ls => ⟨p.1, p.2, l⟩ :: chgs ps ls
  | _, _ => []
theorem chgs_get : ∀ (ps : List (Nat × Reg)) (ls : List Sub), ls.length = ps.length → ∀ c, c ∈ chgs ps ls → ∃ i : Nat, ps[i]? = some (c.id, c.reg) ∧ ls[i]? = some c.loc
  | [], _, _, c, h => by simp [chgs] at h
  | p :: ps, [], hl, _, _ => by simp at hl
  | p :: ps, l :: ls, hl, c, h => by
    simp only [chgs] at h
    rcases List.mem_cons.1 h with h | h
    · subst h; exact ⟨0, rfl, rfl⟩
    · obtain ⟨i, h1, h2⟩ := chgs_get ps ls (by simpa using hl) c h
      exact ⟨i + 1, by simpa using h1, by simpa using h2⟩
theorem chgs_ids : ∀ (ps : List (Nat × Reg)) (ls : List Sub), ls.length = ps.length → (chgs ps ls).map Chg.id = ps.map (·.1)
  | [], _, _ => by simp [chgs]
  | p :: ps, [], hl => by simp at hl
  | p :: ps, l :: ls, hl => by simp only [chgs, List.map_cons]; rw [chgs_ids ps ls (by simpa using hl)]
theorem chgs_in : ∀ (ps : List (Nat × Reg)) (ls : List Sub), ls.length = ps.length → ∀ (i r : Nat) (g : Reg) (l : Sub), ps[i]? = some (r, g) → ls[i]? = some l → (⟨r, g, l⟩ : Chg) ∈ chgs ps ls
  | [], _, _, i, r, g, l, h, _ => by simp at h
  | p :: ps, [], hl, _, _, _, _, _, _ => by simp at hl
  | p :: ps, l :: ls, hl, i, r, g, l0, h, h2 => by
    simp only [chgs]
    cases i with
    | zero => simp at h h2; subst h; subst h2; exact List.mem_cons_self ..
    | succ i => exact List.mem_cons_of_mem _ (chgs_in ps ls (by simpa using hl) i r g l0 (by simpa using h) (by simpa using h2))
theorem chgs_app (ps qs : List (Nat × Reg)) (ls ms : List Sub) (h : ls.length = ps.length) : chgs (ps ++ qs) (ls ++ ms) = chgs ps ls ++ chgs qs ms := by
  induction ps generalizing ls with
  | nil => cases ls <;> simp [chgs] at h ⊢
  | cons p ps ih =>
    cases ls with
    | nil => simp at h
    | cons l ls => simp only [List.cons_append, chgs]; rw [ih ls (by simpa using h)]

theorem look_sets : ∀ (ps : List (Nat × Reg)) (rs : Regs) (s : Nat) (o : (Nat × Reg) → Option Nat), (∀ p, o p = none ∨ o p = some p.1) → (ps.map (·.1)).Nodup →
    look (Eff.app rs (ps.map fun p => EffI.set (o p) p.1 p.2)) s = match ps.find? (fun p => decide (p.1 = s)) with | some p => some p.2 | none => look rs s
  | [], rs, s, o, _, _ => rfl
  | p :: ps, rs, s, o, ho, hn => by
    simp only [List.map_cons, List.nodup_cons] at hn
    simp only [List.map_cons, Eff.app, EffI.app]
    rw [look_sets ps _ s o ho hn.2, List.find?_cons]
    by_cases e : p.1 = s
    · have h1 : (ps.find? fun p => decide (p.1 = s)) = none := by
        rw [List.find?_eq_none]
        intro q hq h2
        exact hn.1 (List.mem_map.2 ⟨q, hq, (by simpa using h2 : q.1 = s).trans e.symm⟩)
      rw [h1]
      simp [e, look_upd]
    · simp only [e, decide_false, Bool.false_eq_true, if_false]
      have h1 : look (upd (without rs (o p)) p.1 (some p.2)) s = look rs s := by
        rw [look_upd, if_neg e, look_without]
        rcases ho p with h | h <;> rw [h] <;> simp [e]
      rw [h1]
theorem chgOf_find : ∀ (ps : List (Nat × Reg)) (ls : List Sub) (s : Nat), ls.length = ps.length → (match chgOf (chgs ps ls) s with | some c => some c.reg | none => none) = (match ps.find? (fun p => decide (p.1 = s)) with | some p => some p.2 | none => none)
  | [], _, _, _ => by simp [chgs, chgOf]
  | p :: ps, [], _, hl => by simp at hl
  | p :: ps, l :: ls, s, hl => by
    simp only [chgs, chgOf, List.find?_cons]
    by_cases e : p.1 = s
    · simp [e]
    · simp only [e, if_false, decide_false, Bool.false_eq_true]
      exact chgOf_find ps ls s (by simpa using hl)

theorem All2.get2 {α β : Type} {R : α → β → Prop} {as : List α} {bs : List β} (h : All2 R as bs) : ∀ (i : Nat) (a : α) (b : β), as[i]? = some a → bs[i]? = some b → R a b := by
  intro i a b ha hb
  obtain ⟨b', h1, h2⟩ := h.get i a ha
  rw [hb] at h1; cases h1; exact h2

theorem callV_sound {cx : Cx} {φ : Phi} {st : St} {a : Act} {w : World} (R : RelF cx φ st a w) {f : FuncId} {S : Summ} (hS : SumOK cx.P f S) {n : Nat} (hf : ∀ k, k < 8 → FreshN cx st (n + k))
    {rsC : Regs} {cl : List Nat} {φc : Phi} (RC : RelF cx φc { st with regs := rsC } a w) (hcl : ∀ s, s ∉ cl → φc s = φ s ∧ look rsC s = look st.regs s) (hnil : cl = [] → ∀ b, okOf rsC φc b → okOf st.regs φ b)
    {vs : List SV} {Vs : List Value} {vc : List Prop} {av : AV} {e : Eff} (h : callV S rsC cl n vs = some (vc, av, e)) (hvc : ∀ p ∈ vc, p) (hall : All2 (SVRel rsC φc (okOf rsC φc) w) vs Vs) :
    Calls cx.P f Vs.toArray w fun e' w' => ∃ V φ', e' = .returned V ∧ RelF cx φ' { st with regs := e.app st.regs } a w' ∧ AVRel (e.app st.regs) φ' (okOf (e.app st.regs) φ') w' av V := by
  have L := R.lay
  unfold callV at h
  split at h
  · rename_i x vc0 io bo hb
    split at h
    · rename_i hc
      simp only [Bool.and_eq_true, decide_eq_true_eq, List.all_eq_true, Bool.not_eq_true', List.contains_eq_mem, decide_eq_false_iff_not] at hc
      obtain ⟨⟨⟨⟨hnd, hbo⟩, hcnt⟩, hioC⟩, hescl⟩ := hc
      have hnd := nodupB_spec hnd
      simp only [Option.some.injEq, Prod.mk.injEq] at h
      obtain ⟨rfl, rfl, rfl⟩ := h
      have hpre : S.pre x := hvc _ (by simp)
      have hvc0 : ∀ p ∈ vc0, p := fun p hp => hvc p (by simp [hp])
      have hbosp := bindP_bo _ _ _ _ _ _ hb
      have hliveC : ∀ r ∈ io, ∃ g, look rsC r = some g ∧ g.holes = [] := by
        obtain ⟨_, _, _, h4⟩ := bindP_sound RC (fun _ => True) (okOf rsC φc) (fun _ _ => trivial) _ _ _ _ _ _ _ hb hvc0 (fun _ _ _ _ => trivial) (fun r _ g hg => RC.lay.rg r g hg) hall
        exact h4
      have hlive : ∀ r ∈ io, ∃ g, look st.regs r = some g ∧ g.holes = [] := fun r hr => by
        rw [← (hcl r (hioC r hr)).2]; exact hliveC r hr
      -- what may be read
      let ok : Nat → Prop := fun b => okOf st.regs φ b ∨ (S.esc = false ∧ ∀ r ∈ io, ¬ (φ r).has b)
      obtain ⟨ls, hps, hio0, _⟩ := bindP_sound RC ok (okOf st.regs φ) (fun b h => by
        cases he : S.esc with
        | true =>
          rw [he] at hescl
          exact .inl (hnil (by simpa using hescl) b h)
        | false =>
          refine .inr ⟨he, fun r hr hrb => ?_⟩
          obtain ⟨g, hg, _⟩ := hliveC r hr
          exact h.1 r g hg (by rw [(hcl r (hioC r hr)).1]; exact hrb)) _ _ _ _ _ _ _ hb hvc0 (fun r hr b hbk => by
        obtain ⟨h1, g, h2⟩ := hbosp r hr
        refine .inr ⟨h1, fun s hs hsb => ?_⟩
        obtain ⟨g', h3, _⟩ := hliveC s hs
        have := RC.lay.sep r s g g' b h2 h3 hbk (by rw [(hcl s (hioC s hs)).1]; exact hsb)
        subst this
        exact hbo r hr hs) (fun r hr g hg => by
          rw [(hcl r (hioC r hr)).1]
          exact L.rg r g (by rw [← (hcl r (hioC r hr)).2]; exact hg)) hall
      have hio : ioLocs S.par ls = io.map φ := by
        rw [hio0]
        exact List.map_congr_left fun r hr => (hcl r (hioC r hr)).1
      have hiomem : ∀ l, l ∈ ioLocs S.par ls ↔ ∃ r ∈ io, φ r = l := by
        intro l; rw [hio]; simp [List.mem_map]
      have hap : Apart (ioLocs S.par ls) := by
        rw [hio]
        intro i j l l' b h1 h2 h3 h4
        rw [List.getElem?_map, Option.map_eq_some_iff] at h1 h2
        obtain ⟨r, hr, rfl⟩ := h1
        obtain ⟨r', hr', rfl⟩ := h2
        obtain ⟨g, k1, _⟩ := hlive r (List.mem_of_getElem? hr)
        obtain ⟨g', k2, _⟩ := hlive r' (List.mem_of_getElem? hr')
        have e := L.sep r r' g g' b k1 k2 h3 h4
        subst e
        have hi := (List.getElem?_eq_some_iff.1 hr).1
        exact (List.getElem?_inj hi hnd).1 (hr.trans hr'.symm)
      refine (hS x Vs ls w ok (okOf st.regs φ) hpre hps hap (fun l hl b hbl => ?_)).mono ?_
      · obtain ⟨r, hr, rfl⟩ := (hiomem l).1 hl
        obtain ⟨g, h3, _⟩ := hlive r hr
        refine ⟨?_, fun h => h.1 r g h3 hbl⟩
        rintro (h | ⟨_, h⟩)
        · exact h.1 r g h3 hbl
        · exact h r hr hbl
      · rintro e' w' ⟨rvs, rl, ls', rfl, A⟩
        obtain ⟨d1, d2, d3⟩ := ioRegs_sound (φ := φ) S.par vs x vc0 io bo (S.fn x).2 ls' hb hvc0 A.kind A.out
        obtain ⟨c1, c2, c3⟩ := resRegs_sound S.res (S.fn x).1 n rvs rl A.res
        have hlio : ls'.length = (ioRegs rsC S.par (S.fn x).2 io).length := by
          have := congrArg List.length d1
          rw [List.length_map] at this
          rw [d2, this]
        have hlrl : rl.length = (resRegs S.res (S.fn x).1 n).length := c1.symm
        let ps := ioRegs rsC S.par (S.fn x).2 io ++ resRegs S.res (S.fn x).1 n
        let C := chgs ps (ls' ++ rl)
        have hlen : (ls' ++ rl).length = ps.length := by simp only [ps, List.length_append, hlio, hlrl]
        have hnget : ∀ (i : Nat) p, (resRegs S.res (S.fn x).1 n)[i]? = some p → FreshN cx st p.1 ∧ p.1 = n + i ∧ i < 8 := by
          intro i p hi
          obtain ⟨k1, _, _⟩ := c3 i p.1 p.2 hi
          have := (List.getElem?_eq_some_iff.1 hi).1
          have hi8 : i < 8 := by rw [c1, c2] at this; omega
          exact ⟨by rw [k1]; exact hf i hi8, k1, hi8⟩
        have hids : (ps.map (·.1)).Nodup := by
          simp only [ps, List.map_append]
          rw [d1]
          refine List.nodup_append.2 ⟨hnd, ?_, fun r hr s hs e => ?_⟩
          · rw [List.Nodup, List.pairwise_iff_getElem]
            intro i j hi hj hij e
            rw [List.getElem_map, List.getElem_map] at e
            rw [List.length_map] at hi hj
            have e1 := (hnget i _ (List.getElem?_eq_getElem hi)).2.1
            have e2 := (hnget j _ (List.getElem?_eq_getElem hj)).2.1
            omega
          · obtain ⟨p, hp, e2⟩ := List.mem_map.1 hs
            obtain ⟨i, hi, e3⟩ := List.getElem_of_mem hp
            have := (hnget i p (by rw [List.getElem?_eq_getElem hi, e3])).1.1.1
            obtain ⟨g, hg, _⟩ := hlive r hr
            rw [e2, ← e, hg] at this
            cases this
        have hCmem : ∀ c ∈ C, (∃ i : Nat, (ioRegs rsC S.par (S.fn x).2 io)[i]? = some (c.id, c.reg) ∧ ls'[i]? = some c.loc) ∨ (∃ i : Nat, (resRegs S.res (S.fn x).1 n)[i]? = some (c.id, c.reg) ∧ rl[i]? = some c.loc) := by
          intro c hc
          have hc : c ∈ chgs (ioRegs rsC S.par (S.fn x).2 io ++ resRegs S.res (S.fn x).1 n) (ls' ++ rl) := hc
          rw [chgs_app _ _ _ _ hlio] at hc
          rcases List.mem_append.1 hc with hc | hc
          · exact .inl (chgs_get _ _ hlio c hc)
          · exact .inr (chgs_get _ _ hlrl c hc)
        have hCloc : ∀ c ∈ C, c.loc ∈ rl ++ ls' := fun c hc => by
          rcases hCmem c hc with ⟨i, _, h2⟩ | ⟨i, _, h2⟩
          · exact List.mem_append_right _ (List.mem_of_getElem? h2)
          · exact List.mem_append_left _ (List.mem_of_getElem? h2)
        have hCio : ∀ c ∈ C, ∀ i : Nat, (ioRegs rsC S.par (S.fn x).2 io)[i]? = some (c.id, c.reg) → io[i]? = some c.id := fun c _ i h1 => by
          rw [← d1, List.getElem?_map, h1]; rfl
        have hEff : Eff.app st.regs ((ioRegs rsC S.par (S.fn x).2 io).map (fun p => EffI.set (some p.1) p.1 p.2) ++ (resRegs S.res (S.fn x).1 n).map (fun p => EffI.set none p.1 p.2)) =
            Eff.app (Eff.app st.regs ((ioRegs rsC S.par (S.fn x).2 io).map (fun p => EffI.set (some p.1) p.1 p.2))) ((resRegs S.res (S.fn x).1 n).map (fun p => EffI.set none p.1 p.2)) := by
          have : ∀ (e1 e2 : Eff) (rs : Regs), Eff.app rs (e1 ++ e2) = Eff.app (Eff.app rs e1) e2 := by
            intro e1
            induction e1 with
            | nil => intro e2 rs; rfl
            | cons i e1 ih => intro e2 rs; simp only [List.cons_append, Eff.app]; exact ih e2 _
          exact this _ _ _
        have hn1 : ((ioRegs rsC S.par (S.fn x).2 io).map (·.1)).Nodup := by rw [d1]; exact hnd
        have hn2 : ((resRegs S.res (S.fn x).1 n).map (·.1)).Nodup := by
          simp only [ps, List.map_append] at hids
          exact (List.nodup_append.1 hids).2.1
        have hrs : ∀ s, look (Eff.app st.regs ((ioRegs rsC S.par (S.fn x).2 io).map (fun p => EffI.set (some p.1) p.1 p.2) ++ (resRegs S.res (S.fn x).1 n).map (fun p => EffI.set none p.1 p.2))) s =
            match chgOf C s with | some c => some c.reg | none => look st.regs s := by
          intro s
          rw [hEff, look_sets _ _ s (fun _ => none) (fun _ => .inl rfl) hn2, look_sets _ _ s (fun p => some p.1) (fun _ => .inr rfl) hn1]
          have h1 := chgOf_find ps (ls' ++ rl) s hlen
          have h2 : ps.find? (fun p => decide (p.1 = s)) = match (ioRegs rsC S.par (S.fn x).2 io).find? (fun p => decide (p.1 = s)) with | some p => some p | none => (resRegs S.res (S.fn x).1 n).find? (fun p => decide (p.1 = s)) := by
            simp only [ps, List.find?_append]
            cases (ioRegs rsC S.par (S.fn x).2 io).find? (fun p => decide (p.1 = s)) <;> rfl
          rw [h2] at h1
          show _ = match chgOf (chgs ps (ls' ++ rl)) s with | some c => some c.reg | none => look st.regs s
          cases e1 : (ioRegs rsC S.par (S.fn x).2 io).find? (fun p => decide (p.1 = s)) with
          | some p =>
            rw [e1] at h1
            have h3 : (resRegs S.res (S.fn x).1 n).find? (fun p => decide (p.1 = s)) = none := by
              rw [List.find?_eq_none]
              intro q hq hqs
              have hps : p.1 = s := by simpa using List.find?_some e1
              have hqs : q.1 = s := by simpa using hqs
              simp only [ps, List.map_append] at hids
              exact (List.nodup_append.1 hids).2.2 p.1 (List.mem_map.2 ⟨p, List.mem_of_find?_eq_some e1, rfl⟩) q.1 (List.mem_map.2 ⟨q, hq, rfl⟩) (hps.trans hqs.symm)
            rw [h3]
            cases e2 : chgOf (chgs ps (ls' ++ rl)) s with
            | none => rw [e2] at h1; cases h1
            | some c => rw [e2] at h1; simpa using h1.symm
          | none =>
            rw [e1] at h1
            cases e3 : (resRegs S.res (S.fn x).1 n).find? (fun p => decide (p.1 = s)) with
            | some p =>
              rw [e3] at h1
              cases e2 : chgOf (chgs ps (ls' ++ rl)) s with
              | none => rw [e2] at h1; cases h1
              | some c => rw [e2] at h1; simpa using h1.symm
            | none =>
              rw [e3] at h1
              cases e2 : chgOf (chgs ps (ls' ++ rl)) s with
              | none => rfl
              | some c => rw [e2] at h1; cases h1
        have hlookC : ∀ s g, look (Eff.app st.regs ((ioRegs rsC S.par (S.fn x).2 io).map (fun p => EffI.set (some p.1) p.1 p.2) ++ (resRegs S.res (S.fn x).1 n).map (fun p => EffI.set none p.1 p.2))) s = some g →
            (∃ c ∈ C, c.id = s ∧ c.reg = g ∧ setLocs φ C s = c.loc) ∨ ((∀ c ∈ C, c.id ≠ s) ∧ look st.regs s = some g ∧ setLocs φ C s = φ s) := by
          intro s g hg
          rw [hrs] at hg
          cases hc : chgOf C s with
          | some c => rw [hc] at hg; obtain ⟨k1, k2⟩ := chgOf_some hc; exact .inl ⟨c, k1, k2, by simpa using hg, by simp [setLocs, hc]⟩
          | none => rw [hc] at hg; exact .inr ⟨chgOf_none hc, hg, by simp [setLocs, hc]⟩
        -- what may be read afterwards
        have hokk : ∀ b o, okAfter S.esc ok (okOf st.regs φ) w (ioLocs S.par ls) (rl ++ ls') b → w'.heap[b]? = some o →
            okOf (Eff.app st.regs ((ioRegs rsC S.par (S.fn x).2 io).map (fun p => EffI.set (some p.1) p.1 p.2) ++ (resRegs S.res (S.fn x).1 n).map (fun p => EffI.set none p.1 p.2))) (setLocs φ C) b ∧ w'.heap[b]? = some o := by
          intro b o ⟨hnG, hk⟩ hh
          refine ⟨⟨fun s g hs hsb => ?_, ?_⟩, hh⟩
          · rcases hlookC s g hs with ⟨c, k1, _, _, k4⟩ | ⟨k1, k2, k3⟩
            · rw [k4] at hsb; exact hnG c.loc (hCloc c k1) hsb
            · rw [k3] at hsb
              have hlt := L.al s g b k2 hsb
              rcases hk with hk | ⟨l, hl, hlb⟩ | ⟨he, hk, _⟩ | ⟨hk, _⟩
              · omega
              · obtain ⟨r, hr, rfl⟩ := (hiomem l).1 hl
                obtain ⟨g0, k5, _⟩ := hlive r hr
                have := L.sep s r g g0 b k2 k5 hsb hlb
                subst this
                obtain ⟨i, hi, e⟩ := List.getElem_of_mem hr
                have h5 : (ioRegs rsC S.par (S.fn x).2 io).map (·.1) = io := d1
                have hi' : i < (ioRegs rsC S.par (S.fn x).2 io).length := by rw [← List.length_map (f := (·.1)), h5]; exact hi
                have h6 : ((ioRegs rsC S.par (S.fn x).2 io)[i]).1 = s := by
                  have : ((ioRegs rsC S.par (S.fn x).2 io).map (·.1))[i]? = some s := by rw [h5, List.getElem?_eq_getElem hi, e]
                  rw [List.getElem?_map, List.getElem?_eq_getElem hi'] at this
                  simpa using this
                have h7 : i < ls'.length := by rw [hlio]; exact hi'
                have hin : (⟨((ioRegs rsC S.par (S.fn x).2 io)[i]).1, ((ioRegs rsC S.par (S.fn x).2 io)[i]).2, ls'[i]⟩ : Chg) ∈ C := by
                  show _ ∈ chgs (ioRegs rsC S.par (S.fn x).2 io ++ resRegs S.res (S.fn x).1 n) (ls' ++ rl)
                  rw [chgs_app _ _ _ _ hlio]
                  exact List.mem_append_left _ (chgs_in _ _ hlio i _ _ _ (List.getElem?_eq_getElem hi') (List.getElem?_eq_getElem h7))
                exact k1 _ hin h6
              · rcases hk with hk | ⟨hk, _⟩
                · exact hk.1 s g k2 hsb
                · rw [he] at hk; cases hk
              · exact hk.1 s g k2 hsb
          · rcases hk with hk | ⟨l, hl, hlb⟩ | ⟨he, hk, _⟩ | ⟨hk, _⟩
            · exact (R.bs b).2 (.inl (Nat.le_trans R.hB hk))
            · obtain ⟨r, hr, rfl⟩ := (hiomem l).1 hl
              obtain ⟨g0, k5, _⟩ := hlive r hr
              exact (R.bs b).2 ((L.fr r g0 b k5 hlb).elim .inl fun h => .inr (.inl h))
            · rcases hk with hk | ⟨hk, _⟩
              · exact hk.2
              · rw [he] at hk; cases hk
            · exact hk.2
        have R2 : RelF cx (setLocs φ C) { st with regs := Eff.app st.regs ((ioRegs rsC S.par (S.fn x).2 io).map (fun p => EffI.set (some p.1) p.1 p.2) ++ (resRegs S.res (S.fn x).1 n).map (fun p => EffI.set none p.1 p.2)) } a w' := by
          refine R.many C _ hrs (fun c hc => ?_) (fun c hc => ?_) (fun c hc => A.good _ (hCloc c hc)) (fun c hc b hbl => ?_) (fun c hc c' hc' b h1 h2 => ?_) (fun b hlt hno => ?_) (fun c hc => ?_) A.kept.os A.kept.tape A.kept.output A.kept.size
          · rcases hCmem c hc with ⟨i, h1, h2⟩ | ⟨i, h1, h2⟩
            · obtain ⟨_, ⟨g, k1, k2⟩, l, k3, _⟩ := d3 i _ _ h1
              right
              have hi : (ioLocs S.par ls)[i]? = some (φ c.id) := by rw [hio, List.getElem?_map, hCio c hc i h1]; rfl
              exact ⟨A.same.get2 i _ _ hi h2, g, by rw [← (hcl c.id (hioC c.id (List.mem_of_getElem? (hCio c hc i h1)))).2]; exact k1, k2⟩
            · exact .inl (hnget i _ h1).1
          · rcases hCmem c hc with ⟨i, h1, h2⟩ | ⟨i, h1, h2⟩
            · exact (d3 i _ _ h1).1
            · exact (c3 i _ _ h1).2.1
          · rcases A.blk _ (hCloc c hc) b hbl with h | ⟨l0, h0, h1⟩
            · exact .inl h
            · right
              obtain ⟨r, hr, rfl⟩ := (hiomem l0).1 h0
              obtain ⟨g0, k5, _⟩ := hlive r hr
              obtain ⟨i, hi, e⟩ := List.getElem_of_mem hr
              have hi' : i < (ioRegs rsC S.par (S.fn x).2 io).length := by rw [← List.length_map (f := (·.1)), d1]; exact hi
              have h6 : ((ioRegs rsC S.par (S.fn x).2 io)[i]).1 = r := by
                have : ((ioRegs rsC S.par (S.fn x).2 io).map (·.1))[i]? = some r := by rw [d1, List.getElem?_eq_getElem hi, e]
                rw [List.getElem?_map, List.getElem?_eq_getElem hi'] at this
                simpa using this
              have h7 : i < ls'.length := by rw [hlio]; exact hi'
              refine ⟨⟨((ioRegs rsC S.par (S.fn x).2 io)[i]).1, ((ioRegs rsC S.par (S.fn x).2 io)[i]).2, ls'[i]⟩, ?_, g0, by show look st.regs ((ioRegs rsC S.par (S.fn x).2 io)[i]).1 = _; rw [h6]; exact k5, by show (φ ((ioRegs rsC S.par (S.fn x).2 io)[i]).1).has b; rw [h6]; exact h1⟩
              show _ ∈ chgs (ioRegs rsC S.par (S.fn x).2 io ++ resRegs S.res (S.fn x).1 n) (ls' ++ rl)
              rw [chgs_app _ _ _ _ hlio]
              exact List.mem_append_left _ (chgs_in _ _ hlio i _ _ _ (List.getElem?_eq_getElem hi') (List.getElem?_eq_getElem h7))
          · have hpos : ∀ c ∈ C, ∃ k : Nat, (rl ++ ls')[k]? = some c.loc ∧ ((∃ i : Nat, (resRegs S.res (S.fn x).1 n)[i]? = some (c.id, c.reg) ∧ k = i ∧ i < rl.length) ∨ (∃ i : Nat, (ioRegs rsC S.par (S.fn x).2 io)[i]? = some (c.id, c.reg) ∧ k = rl.length + i)) := by
              intro c hc
              rcases hCmem c hc with ⟨i, h1, h2⟩ | ⟨i, h1, h2⟩
              · exact ⟨rl.length + i, by rw [List.getElem?_append_right (by omega)]; simpa using h2, .inr ⟨i, h1, rfl⟩⟩
              · have hlt := (List.getElem?_eq_some_iff.1 h2).1
                exact ⟨i, by rw [List.getElem?_append_left hlt]; exact h2, .inl ⟨i, h1, rfl, hlt⟩⟩
            obtain ⟨k, hk, hk2⟩ := hpos c hc
            obtain ⟨k', hk', hk2'⟩ := hpos c' hc'
            have e := A.apart k k' _ _ b hk hk' h1 h2
            subst e
            rcases hk2 with ⟨i, j1, j2, j3⟩ | ⟨i, j1, j2⟩ <;> rcases hk2' with ⟨i', m1, m2, m3⟩ | ⟨i', m1, m2⟩
            · have : i = i' := by omega
              subst this; rw [j1] at m1; simp only [Option.some.injEq, Prod.mk.injEq] at m1; exact m1.1
            · omega
            · omega
            · have : i = i' := by omega
              subst this; rw [j1] at m1; simp only [Option.some.injEq, Prod.mk.injEq] at m1; exact m1.1
          · refine A.kept.block b hlt ?_
            rintro ⟨l, hl, hlb⟩
            obtain ⟨r, hr, rfl⟩ := (hiomem l).1 hl
            obtain ⟨g0, k5, _⟩ := hlive r hr
            obtain ⟨i, hi, e⟩ := List.getElem_of_mem hr
            have hi' : i < (ioRegs rsC S.par (S.fn x).2 io).length := by rw [← List.length_map (f := (·.1)), d1]; exact hi
            have h6 : ((ioRegs rsC S.par (S.fn x).2 io)[i]).1 = r := by
              have : ((ioRegs rsC S.par (S.fn x).2 io).map (·.1))[i]? = some r := by rw [d1, List.getElem?_eq_getElem hi, e]
              rw [List.getElem?_map, List.getElem?_eq_getElem hi'] at this
              simpa using this
            have h7 : i < ls'.length := by rw [hlio]; exact hi'
            refine hno ⟨((ioRegs rsC S.par (S.fn x).2 io)[i]).1, ((ioRegs rsC S.par (S.fn x).2 io)[i]).2, ls'[i]⟩ ?_ g0 (by show look st.regs ((ioRegs rsC S.par (S.fn x).2 io)[i]).1 = _; rw [h6]; exact k5) (by show (φ ((ioRegs rsC S.par (S.fn x).2 io)[i]).1).has b; rw [h6]; exact hlb)
            show _ ∈ chgs (ioRegs rsC S.par (S.fn x).2 io ++ resRegs S.res (S.fn x).1 n) (ls' ++ rl)
            rw [chgs_app _ _ _ _ hlio]
            exact List.mem_append_left _ (chgs_in _ _ hlio i _ _ _ (List.getElem?_eq_getElem hi') (List.getElem?_eq_getElem h7))
          · rcases hCmem c hc with ⟨i, h1, h2⟩ | ⟨i, h1, h2⟩
            · obtain ⟨_, _, l, k3, k4⟩ := d3 i _ _ h1
              rw [h2] at k3; cases k3
              exact Reg.at_mono hokk (fun _ _ => rfl) (fun _ _ _ _ => rfl) k4
            · obtain ⟨_, _, l, k3, k4⟩ := c3 i _ _ h1
              rw [h2] at k3; cases k3
              exact Reg.at_mono hokk (fun _ _ => rfl) (fun _ _ _ _ => rfl) k4
        refine ⟨retVal rvs, setLocs φ C, rfl, R2, retAV_sound (resVs_sound R2.lay hokk S.res (S.fn x).1 n rvs rl A.res fun i r g hi => ?_)⟩
        obtain ⟨_, _, l, k3, _⟩ := c3 i r g hi
        have hin : (⟨r, g, l⟩ : Chg) ∈ C := by
          show _ ∈ chgs (ioRegs rsC S.par (S.fn x).2 io ++ resRegs S.res (S.fn x).1 n) (ls' ++ rl)
          rw [chgs_app _ _ _ _ hlio]
          exact List.mem_append_right _ (chgs_in _ _ hlrl i r g l hi k3)
        have hCid : (C.map Chg.id).Nodup := by
          show ((chgs ps (ls' ++ rl)).map Chg.id).Nodup
          rw [chgs_ids _ _ hlen]; exact hids
        have hco := chgOf_mem hCid hin
        refine ⟨by rw [hrs]; simp only [hco], l, k3, by simp only [setLocs, hco]⟩
    · cases h
  · cases h

end Go.Lift
/- The shape of a state at a loop's head. -/
namespace Go.Lift
open Go

/-- The steps of an address, what their numbers are left open. -/
inductive KS where
  | f
  | s
  | i
  | k
@[reducible] def pdt : List KS → Type → Type
  | [], T => T
  | .i :: k, T => Int × pdt k T
  | .k :: k, T => Int × pdt k T
  | .f :: k, T => pdt k T
  | .s :: k, T => pdt k T
def splitP {T : Type} : (k : List KS) → pdt k T → List Step × T
  | [], x => ([], x)
  | .i :: k, x => (.idx x.1 :: (splitP k x.2).1, (splitP k x.2).2)
  | .k :: k, x => (.key x.1 :: (splitP k x.2).1, (splitP k x.2).2)
  | .f :: k, x => (.fst :: (splitP (T := T) k x).1, (splitP (T := T) k x).2)
  | .s :: k, x => (.snd :: (splitP (T := T) k x).1, (splitP (T := T) k x).2)
def joinP {T : Type} : (k : List KS) → List Step → T → Option (pdt k T)
  | [], p, z => match p with
    | [] => some z
    | _ => none
  | .i :: k, p, z => match p with
    | .idx i :: p => match joinP k p z with
      | some y => some (i, y)
      | none => none
    | _ => none
  | .k :: k, p, z => match p with
    | .key i :: p => match joinP k p z with
      | some y => some (i, y)
      | none => none
    | _ => none
  | .f :: k, p, z => match p with
    | .fst :: p => joinP (T := T) k p z
    | _ => none
  | .s :: k, p, z => match p with
    | .snd :: p => joinP (T := T) k p z
    | _ => none
theorem joinP_split {T : Type} : ∀ (k : List KS) (p : List Step) (z : T) (x : pdt k T), joinP k p z = some x → splitP k x = (p, z)
  | [], p, z, x, h => by
    simp only [joinP] at h
    split at h
    · cases h; rfl
    · cases h
  | .i :: k, p, z, x, h => by
    simp only [joinP] at h
    split at h
    · split at h
      · rename_i hj
        cases h
        simp only [splitP, joinP_split k _ _ _ hj]
      · cases h
    · cases h
  | .k :: k, p, z, x, h => by
    simp only [joinP] at h
    split at h
    · split at h
      · rename_i hj
        cases h
        simp only [splitP, joinP_split k _ _ _ hj]
      · cases h
    · cases h
  | .f :: k, p, z, x, h => by
    simp only [joinP] at h
    split at h
    · have := joinP_split k _ _ _ h
      simp only [splitP, this]
    · cases h
  | .s :: k, p, z, x, h => by
    simp only [joinP] at h
    split at h
    · have := joinP_split k _ _ _ h
      simp only [splitP, this]
    · cases h
/-- What is open, the numbers left open. -/
abbrev HS := List (List KS × Nat)
@[reducible] def hdt : HS → Type → Type
  | [], T => T
  | (k, _) :: hs, T => pdt k (hdt hs T)
def splitH {T : Type} : (hs : HS) → hdt hs T → Holes × T
  | [], x => ([], x)
  | (k, m) :: hs, x => (((splitP (T := hdt hs T) k x).1, m) :: (splitH (T := T) hs (splitP (T := hdt hs T) k x).2).1, (splitH (T := T) hs (splitP (T := hdt hs T) k x).2).2)
def joinH {T : Type} : (hs : HS) → Holes → T → Option (hdt hs T)
  | [], H, z => match H with
    | [] => some z
    | _ => none
  | (k, m) :: hs, H, z => match H with
    | (p, m') :: H => if m = m' then (match joinH hs H z with
      | some y => joinP (T := hdt hs T) k p y
      | none => none) else none
    | _ => none
theorem joinH_split {T : Type} : ∀ (hs : HS) (H : Holes) (z : T) (x : hdt hs T), joinH hs H z = some x → splitH hs x = (H, z)
  | [], H, z, x, h => by
    simp only [joinH] at h
    split at h
    · cases h; rfl
    · cases h
  | (k, m) :: hs, H, z, x, h => by
    simp only [joinH] at h
    split at h
    · split at h
      · rename_i e
        split at h
        · rename_i hj
          have h1 := joinP_split _ _ _ _ h
          have h2 := joinH_split hs _ _ _ hj
          simp only [splitH, h1, h2, e]
        · cases h
      · cases h
    · cases h

inductive Slot where
  | u
  | v (t : Ty)
  | sl (r : Nat)
  | addr (r : Nat)
  | nilsl
  | nilp
  | fn (f : FuncId) (rs : List Nat)
  | ap (r : Nat) (k : List KS)
  | mp (r : Nat)
  | slv (r : Nat)
  | ra (t : Ty)
  | fnr (f : FuncId) (t : Ty)
inductive RSlot where
  | row (t : Ty) (hs : HS)
  | box (t : Ty) (hs : HS)
  | obox (t : Ty) (hs : HS)
  | mp (k v : Ty) (hs : HS)
@[reducible] def tden : List Slot → Type
  | [] => Unit
  | .v t :: ss => t.den × tden ss
  | .u :: ss => tden ss
  | .sl _ :: ss => tden ss
  | .addr _ :: ss => tden ss
  | .nilsl :: ss => tden ss
  | .nilp :: ss => tden ss
  | .fn _ _ :: ss => tden ss
  | .ap _ k :: ss => pdt k (tden ss)
  | .mp _ :: ss => tden ss
  | .slv _ :: ss => Int × Int × tden ss
  | .ra t :: ss => t.den × tden ss
  | .fnr _ t :: ss => t.den × tden ss
@[reducible] def gden : List (Nat × RSlot) → Type
  | [] => Unit
  | (_, .row t hs) :: ss => List t.den × hdt hs (gden ss)
  | (_, .box t hs) :: ss => t.den × hdt hs (gden ss)
  | (_, .obox t hs) :: ss => Option t.den × hdt hs (gden ss)
  | (_, .mp k v hs) :: ss => Option (List (k.den × v.den)) × hdt hs (gden ss)
def capsOf (rs : List Nat) : List SV := rs.map fun r => .addr r []
def absTm : (ss : List Slot) → tden ss → List AV
  | [], _ => []
  | .v t :: ss, x => .s (.val t x.1) :: absTm ss x.2
  | .u :: ss, x => .s .undef :: absTm ss x
  | .sl r :: ss, x => .s (.sl r) :: absTm ss x
  | .addr r :: ss, x => .s (.addr r []) :: absTm ss x
  | .nilsl :: ss, x => .s .nilsl :: absTm ss x
  | .nilp :: ss, x => .s .nilp :: absTm ss x
  | .fn f rs :: ss, x => .fn f (capsOf rs) :: absTm ss x
  | .ap r k :: ss, x => .s (.addr r (splitP (T := tden ss) k x).1) :: absTm ss (splitP (T := tden ss) k x).2
  | .mp r :: ss, x => .s (.mp r) :: absTm ss x
  | .slv r :: ss, x => .s (.slv r x.1 x.2.1) :: absTm ss x.2.2
  | .ra t :: ss, x => .s (.ra t x.1) :: absTm ss x.2
  | .fnr f t :: ss, x => .s (.fnr f t x.1) :: absTm ss x.2
def absRg : (ss : List (Nat × RSlot)) → gden ss → Regs
  | [], _ => []
  | (r, .row t hs) :: ss, x => (r, .row t x.1 (splitH (T := gden ss) hs x.2).1) :: absRg ss (splitH (T := gden ss) hs x.2).2
  | (r, .box t hs) :: ss, x => (r, .box t x.1 (splitH (T := gden ss) hs x.2).1) :: absRg ss (splitH (T := gden ss) hs x.2).2
  | (r, .obox t hs) :: ss, x => (r, .obox t x.1 (splitH (T := gden ss) hs x.2).1) :: absRg ss (splitH (T := gden ss) hs x.2).2
  | (r, .mp k v hs) :: ss, x => (r, .mp k v x.1 (splitH (T := gden ss) hs x.2).1) :: absRg ss (splitH (T := gden ss) hs x.2).2
def readCaps : List Nat → List SV → Bool
  | [], vs => match vs with
    | [] => true
    | _ => false
  | r :: rs, vs => match vs with
    | .addr r' [] :: vs => decide (r = r') && readCaps rs vs
    | _ => false
def readTm : (ss : List Slot) → List AV → Option (tden ss)
  | [], vs => match vs with
    | [] => some ()
    | _ => none
  | .v t :: ss, vs => match vs with
    | .s (.val t' x) :: vs => match castTy t' t x with
      | some y => match readTm ss vs with
        | some z => some (y, z)
        | none => none
      | none => none
    | _ => none
  | .u :: ss, vs => match vs with
    | .s .undef :: vs => readTm ss vs
    | _ => none
  | .sl r :: ss, vs => match vs with
    | .s (.sl r') :: vs => if r = r' then readTm ss vs else none
    | _ => none
  | .addr r :: ss, vs => match vs with
    | .s (.addr r' []) :: vs => if r = r' then readTm ss vs else none
    | _ => none
  | .nilsl :: ss, vs => match vs with
    | .s .nilsl :: vs => readTm ss vs
    | _ => none
  | .nilp :: ss, vs => match vs with
    | .s .nilp :: vs => readTm ss vs
    | _ => none
  | .fn f rs :: ss, vs => match vs with
    | .fn f' caps :: vs => if f = f' ∧ readCaps rs caps = true then readTm ss vs else none
    | _ => none
  | .ap r k :: ss, vs => match vs with
    | .s (.addr r' p) :: vs => if r = r' then match readTm ss vs with
      | some z => joinP (T := tden ss) k p z
      | none => none else none
    | _ => none
  | .mp r :: ss, vs => match vs with
    | .s (.mp r') :: vs => if r = r' then readTm ss vs else none
    | _ => none
  | .slv r :: ss, vs => match vs with
    | .s (.slv r' lo hi) :: vs => if r = r' then match readTm ss vs with
      | some z => some (lo, hi, z)
      | none => none else none
    | _ => none
  | .ra t :: ss, vs => match vs with
    | .s (.ra t' x) :: vs => match castTy t' t x with
      | some y => match readTm ss vs with
        | some z => some (y, z)
        | none => none
      | none => none
    | _ => none
  | .fnr f t :: ss, vs => match vs with
    | .s (.fnr f' t' x) :: vs => if f = f' then (match castTy t' t x with
      | some y => match readTm ss vs with
        | some z => some (y, z)
        | none => none
      | none => none) else none
    | _ => none
def readRg : (ss : List (Nat × RSlot)) → Regs → Option (gden ss)
  | [], vs => match vs with
    | [] => some ()
    | _ => none
  | (r, .row t hs) :: ss, vs => match vs with
    | (r', .row t' x H) :: vs => if r = r' then match castTy (.ro t') (.ro t) x with
      | some y => match readRg ss vs with
        | some z => match joinH (T := gden ss) hs H z with
          | some z => some (y, z)
          | none => none
        | none => none
      | none => none else none
    | _ => none
  | (r, .box t hs) :: ss, vs => match vs with
    | (r', .box t' x H) :: vs => if r = r' then match castTy t' t x with
      | some y => match readRg ss vs with
        | some z => match joinH (T := gden ss) hs H z with
          | some z => some (y, z)
          | none => none
        | none => none
      | none => none else none
    | _ => none
  | (r, .obox t hs) :: ss, vs => match vs with
    | (r', .obox t' x H) :: vs => if r = r' then if h : t' = t then match readRg ss vs with
      | some z => match joinH (T := gden ss) hs H z with
        | some z => some (h ▸ x, z)
        | none => none
      | none => none else none else none
    | _ => none
  | (r, .mp k v hs) :: ss, vs => match vs with
    | (r', .mp k' v' x H) :: vs => if r = r' then if h : k' = k ∧ v' = v then match readRg ss vs with
      | some z => match joinH (T := gden ss) hs H z with
        | some z => some (h.1 ▸ h.2 ▸ x, z)
        | none => none
      | none => none else none else none
    | _ => none
theorem readCaps_abs : ∀ {rs : List Nat} {vs : List SV}, readCaps rs vs = true → capsOf rs = vs
  | [], vs, h => by
    simp only [readCaps] at h
    split at h
    · rfl
    · cases h
  | r :: rs, vs, h => by
    simp only [readCaps] at h
    split at h
    · simp only [Bool.and_eq_true, decide_eq_true_eq] at h
      have := readCaps_abs h.2
      simp only [capsOf, List.map_cons] at this ⊢
      rw [this, h.1]
    · cases h
theorem readTm_abs : ∀ {ss : List Slot} {vs : List AV} {x : tden ss}, readTm ss vs = some x → absTm ss x = vs := by
  intro ss
  induction ss with
  | nil => intro vs x h; simp only [readTm] at h; split at h; · rfl
           · cases h
  | cons s ss ih =>
    intro vs x h
    cases s with
    | u => simp only [readTm] at h; split at h; · exact congrArg _ (ih h)
           · cases h
    | nilsl => simp only [readTm] at h; split at h; · exact congrArg _ (ih h)
               · cases h
    | nilp => simp only [readTm] at h; split at h; · exact congrArg _ (ih h)
              · cases h
    | v t =>
      simp only [readTm] at h
      split at h
      · split at h
        · rename_i hc
          split at h
          · rename_i hr
            cases h
            obtain ⟨e1, e2⟩ := castTy_some hc
            subst e1; subst e2
            simp only [absTm, ih hr]
          · cases h
        · cases h
      · cases h
    | ra t =>
      simp only [readTm] at h
      split at h
      · split at h
        · rename_i hc
          split at h
          · rename_i hr
            cases h
            obtain ⟨e1, e2⟩ := castTy_some hc
            subst e1; subst e2
            simp only [absTm, ih hr]
          · cases h
        · cases h
      · cases h
    | sl r =>
      simp only [readTm] at h
      split at h
      · split at h
        · rename_i e; subst e; simp only [absTm, ih h]
        · cases h
      · cases h
    | addr r =>
      simp only [readTm] at h
      split at h
      · split at h
        · rename_i e; subst e; simp only [absTm, ih h]
        · cases h
      · cases h
    | mp r =>
      simp only [readTm] at h
      split at h
      · split at h
        · rename_i e; subst e; simp only [absTm, ih h]
        · cases h
      · cases h
    | slv r =>
      simp only [readTm] at h
      split at h
      · split at h
        · rename_i e
          subst e
          split at h
          · rename_i hr; cases h; simp only [absTm, ih hr]
          · cases h
        · cases h
      · cases h
    | fnr f t =>
      simp only [readTm] at h
      split at h
      · split at h
        · rename_i e
          subst e
          split at h
          · rename_i hc
            split at h
            · rename_i hr
              cases h
              obtain ⟨e1, e2⟩ := castTy_some hc
              subst e1; subst e2
              simp only [absTm, ih hr]
            · cases h
          · cases h
        · cases h
      · cases h
    | fn f rs =>
      simp only [readTm] at h
      split at h
      · split at h
        · rename_i e; obtain ⟨rfl, e2⟩ := e; simp only [absTm, ih h, readCaps_abs e2]
        · cases h
      · cases h
    | ap r k =>
      simp only [readTm] at h
      split at h
      · split at h
        · rename_i e
          subst e
          split at h
          · rename_i hr
            have := joinP_split _ _ _ _ h
            simp only [absTm, this, ih hr]
          · cases h
        · cases h
      · cases h
theorem readRg_abs : ∀ {ss : List (Nat × RSlot)} {vs : Regs} {x : gden ss}, readRg ss vs = some x → absRg ss x = vs := by
  intro ss
  induction ss with
  | nil => intro vs x h; simp only [readRg] at h; split at h; · rfl
           · cases h
  | cons s ss ih =>
    intro vs x h
    obtain ⟨r, s⟩ := s
    cases s with
    | row t hs =>
      simp only [readRg] at h
      split at h
      · split at h
        · rename_i e
          subst e
          split at h
          · rename_i hc
            split at h
            · rename_i hr
              split at h
              · rename_i hj
                cases h
                obtain ⟨e1, e2⟩ := castTy_some hc
                cases e1; subst e2
                have := joinH_split _ _ _ _ hj
                simp only [absRg, this, ih hr]
              · cases h
            · cases h
          · cases h
        · cases h
      · cases h
    | box t hs =>
      simp only [readRg] at h
      split at h
      · split at h
        · rename_i e
          subst e
          split at h
          · rename_i hc
            split at h
            · rename_i hr
              split at h
              · rename_i hj
                cases h
                obtain ⟨e1, e2⟩ := castTy_some hc
                subst e1; subst e2
                have := joinH_split _ _ _ _ hj
                simp only [absRg, this, ih hr]
              · cases h
            · cases h
          · cases h
        · cases h
      · cases h
    | obox t hs =>
      simp only [readRg] at h
      split at h
      · split at h
        · rename_i e
          subst e
          split at h
          · rename_i e1
            split at h
            · rename_i hr
              split at h
              · rename_i hj
                cases h
                subst e1
                have := joinH_split _ _ _ _ hj
                simp only [absRg, this, ih hr]
              · cases h
            · cases h
          · cases h
        · cases h
      · cases h
    | mp k v hs =>
      simp only [readRg] at h
      split at h
      · split at h
        · rename_i e
          subst e
          split at h
          · rename_i e1
            split at h
            · rename_i hr
              split at h
              · rename_i hj
                cases h
                obtain ⟨rfl, rfl⟩ := e1
                have := joinH_split _ _ _ _ hj
                simp only [absRg, this, ih hr]
              · cases h
            · cases h
          · cases h
        · cases h
      · cases h

/-! At a head that may hold nothing, a box will do. -/
def wkOne (s : RSlot) (v : Nat × Reg) : Nat × Reg :=
  match s with
  | .obox _ _ => match v with
    | (r, .box t x H) => (r, .obox t (some x) H)
    | v => v
  | _ => v
def wkRg : List (Nat × RSlot) → Regs → Regs
  | [], vs => vs
  | s :: ss, vs => match vs with
    | [] => []
    | v :: vs => wkOne s.2 v :: wkRg ss vs
def Wk (rs rs' : Regs) : Prop := ∀ r, look rs' r = look rs r ∨ ∃ t x H, look rs r = some (.box t x H) ∧ look rs' r = some (.obox t (some x) H)
theorem wkOne_wk (s : RSlot) (k : Nat) (g : Reg) : ∃ g', wkOne s (k, g) = (k, g') ∧ (g' = g ∨ ∃ t x H, g = .box t x H ∧ g' = .obox t (some x) H) := by
  cases s with
  | obox t hs => cases g <;> first | exact ⟨_, rfl, .inl rfl⟩ | exact ⟨_, rfl, .inr ⟨_, _, _, rfl, rfl⟩⟩
  | _ => exact ⟨g, rfl, .inl rfl⟩
theorem wkRg_wk : ∀ (ss : List (Nat × RSlot)) (rs : Regs), Wk rs (wkRg ss rs)
  | [], rs => fun r => .inl rfl
  | s :: ss, [] => fun r => .inl rfl
  | s :: ss, (k, g) :: rs => fun r => by
    obtain ⟨g', e, h⟩ := wkOne_wk s.2 k g
    rw [wkRg, e]
    simp only [look]
    by_cases hk : k = r
    · subst hk
      rw [if_pos rfl, if_pos rfl]
      rcases h with rfl | ⟨t, x, H, rfl, rfl⟩
      · exact .inl rfl
      · exact .inr ⟨t, x, H, rfl, rfl⟩
    · rw [if_neg hk, if_neg hk]
      exact wkRg_wk ss rs r
/-- Two regions that are one but for what is known of the root. -/
def WkR (g0 g : Reg) : Prop := g0 = g ∨ ∃ t x H, g0 = .box t x H ∧ g = .obox t (some x) H
theorem Wk.dom {rs rs' : Regs} (h : Wk rs rs') {r : Nat} {g : Reg} (hg : look rs' r = some g) : ∃ g0, look rs r = some g0 ∧ WkR g0 g := by
  rcases h r with e | ⟨t, x, H, e1, e2⟩
  · exact ⟨g, e ▸ hg, .inl rfl⟩
  · rw [e2] at hg; cases hg; exact ⟨_, e1, .inr ⟨t, x, H, rfl, rfl⟩⟩
theorem Wk.none {rs rs' : Regs} (h : Wk rs rs') {r : Nat} (hg : look rs r = none) : look rs' r = none := by
  rcases h r with e | ⟨t, x, H, e1, e2⟩
  · rw [e, hg]
  · rw [hg] at e1; cases e1
theorem Wk.some_ {rs rs' : Regs} (h : Wk rs rs') {r : Nat} {g : Reg} (hg : look rs r = some g) : ∃ g', look rs' r = some g' := by
  rcases h r with e | ⟨t, x, H, e1, e2⟩
  · exact ⟨g, e.trans hg⟩
  · exact ⟨_, e2⟩
theorem Wk.ok {rs rs' : Regs} (h : Wk rs rs') (φ : Phi) : okOf rs' φ = okOf rs φ := by
  funext b
  refine propext ⟨fun ⟨h1, h2⟩ => ⟨fun r g hg => ?_, h2⟩, fun ⟨h1, h2⟩ => ⟨fun r g hg => ?_, h2⟩⟩
  · obtain ⟨g', hg'⟩ := h.some_ hg
    exact h1 r g' hg'
  · obtain ⟨g', hg', _⟩ := h.dom hg
    exact h1 r g' hg'
theorem WkR.spec {g0 g : Reg} (h : WkR g0 g) : (∀ l, hdr l g0 = hdr l g) ∧ g0.holes = g.holes ∧ g0.base = g.base ∧ g0.isCells = g.isCells ∧ (∀ p, pokR g0 p ↔ pokR g p) ∧ (∀ p, ptyR g0 p = ptyR g p) ∧
    (∀ ok w l, g0.at ok w l ↔ g.at ok w l) ∧ (∀ w l p, cellR w l g0 p = cellR w l g p) ∧ (∀ φ r p v, addrRel φ r p v g0 → addrRel φ r p v g) := by
  rcases h with rfl | ⟨t, x, H, rfl, rfl⟩
  · exact ⟨fun _ => rfl, rfl, rfl, rfl, fun _ => Iff.rfl, fun _ => rfl, fun _ _ _ => Iff.rfl, fun _ _ _ => rfl, fun _ _ _ _ h => h⟩
  · refine ⟨fun _ => rfl, rfl, rfl, rfl, fun p => ?_, fun p => by cases p <;> rfl, fun _ _ _ => Iff.rfl, fun _ _ p => by cases p <;> rfl, fun φ r p v ⟨b, h1, h2, h3⟩ => .inr ⟨b, rfl, h1, h2, h3⟩⟩
    cases p <;> exact ⟨fun h => ⟨rfl, h⟩, fun h => h.2⟩
theorem SVRel.wk {rs rs' : Regs} (h : Wk rs rs') {φ : Phi} {ok : Nat → Prop} {w : World} {x : SV} {v : Value} (hv : SVRel rs φ ok w x v) : SVRel rs' φ ok w x v := by
  cases x with
  | undef => exact hv
  | val t x => exact hv
  | nilsl => exact hv
  | fn0 f => exact hv
  | fna f r p =>
    obtain ⟨pv, e, h1⟩ := hv
    refine ⟨pv, e, fun g hg => ?_⟩
    obtain ⟨g0, k1, k2⟩ := h.dom hg
    exact k2.spec.2.2.2.2.2.2.2.2 _ _ _ _ (h1 _ k1)
  | fnr f t x => exact hv
  | nilp => exact hv
  | valn t x => exact hv
  | nilq e neg => exact hv
  | ra t x => exact hv
  | nst t x H =>
    obtain ⟨h1, h2, h3, h4, h5⟩ := hv
    refine ⟨h1, h2, h3, h4, fun p m hm => ⟨(h5 p m hm).1, fun g hg => ?_⟩⟩
    obtain ⟨g0, k1, k2⟩ := h.dom hg
    rw [(h5 p m hm).2 g0 k1, k2.spec.1]
  | mp r =>
    intro k vt o H hg
    obtain ⟨g0, h1, h2⟩ := h.dom hg
    rcases h2 with rfl | ⟨t, x, H, rfl, e⟩
    · exact hv _ _ _ _ h1
    · cases e
  | sl r =>
    intro t xs H hg
    obtain ⟨g0, h1, h2⟩ := h.dom hg
    rcases h2 with rfl | ⟨t, x, H, rfl, e⟩
    · exact hv _ _ _ h1
    · cases e
  | slv r lo hi =>
    intro t xs H hg
    obtain ⟨g0, h1, h2⟩ := h.dom hg
    rcases h2 with rfl | ⟨t, x, H, rfl, e⟩
    · exact hv _ _ _ h1
    · cases e
  | addr r p =>
    intro g hg
    obtain ⟨g0, h1, h2⟩ := h.dom hg
    exact h2.spec.2.2.2.2.2.2.2.2 _ _ _ _ (hv _ h1)
theorem AVRel.wk {rs rs' : Regs} (h : Wk rs rs') {φ : Phi} {ok : Nat → Prop} {w : World} {x : AV} {v : Value} (hv : AVRel rs φ ok w x v) : AVRel rs' φ ok w x v := by
  cases x with
  | s x => exact SVRel.wk h hv
  | tup xs =>
    obtain ⟨vs, rfl, ha⟩ := hv
    exact ⟨vs, rfl, ha.imp fun a b hm hr => SVRel.wk h hr⟩
  | fn f xs =>
    obtain ⟨vs, rfl, ha⟩ := hv
    exact ⟨vs, rfl, ha.imp fun a b hm hr => SVRel.wk h hr⟩
  | gd k b want x => exact ⟨fun e => SVRel.wk h (hv.1 e), hv.2⟩
theorem RelF.wk {cx : Cx} {φ : Phi} {tm : List AV} {rs rs' : Regs} {n : Nat} {gh : List AV} {a : Act} {w : World} (h : Wk rs rs') (R : RelF cx φ ⟨tm, rs, n, gh⟩ a w) : RelF cx φ ⟨tm, rs', n, gh⟩ a w := by
  have L : Lay cx φ rs w := R.lay
  refine ⟨R.size, R.len, R.df, fun i av hi => ?_, ?_, ?_, R.kp, R.hB, R.bs⟩
  · show AVRel rs' φ (okOf rs' φ) w av _
    rw [h.ok φ]; exact AVRel.wk h (R.tm i av hi)
  · show All2 (AVRel rs' φ (okOf rs' φ) w) gh cx.gh
    rw [h.ok φ]; exact All2.imp R.gh fun a b _ hr => AVRel.wk h hr
  · show Lay cx φ rs' w
    refine ⟨fun r g hg => ?_, fun r g hg => ?_, fun r r' g g' b hg hg' hb hb' => ?_, fun r g b hg hb => ?_, fun r g b hg hb => ?_, fun r l hr hs => ?_, fun r g hg p m hpm hp gm hgm => ?_, fun r g hg q hq => ?_, fun r g hg p m hpm => ?_⟩
    · rw [h.ok φ]
      obtain ⟨g0, h1, h2⟩ := h.dom hg
      exact (h2.spec.2.2.2.2.2.2.1 _ _ _).1 (L.rg r g0 h1)
    · obtain ⟨g0, h1, _⟩ := h.dom hg; exact L.inj r g0 h1
    · obtain ⟨_, h1, _⟩ := h.dom hg
      obtain ⟨_, h2, _⟩ := h.dom hg'
      exact L.sep r r' _ _ b h1 h2 hb hb'
    · obtain ⟨_, h1, _⟩ := h.dom hg
      exact L.al r _ b h1 hb
    · obtain ⟨_, h1, _⟩ := h.dom hg
      exact L.fr r _ b h1 hb
    · obtain ⟨g, hg⟩ := Option.isSome_iff_exists.1 hs
      obtain ⟨_, h1, _⟩ := h.dom hg
      exact L.io r l hr (by rw [h1]; rfl)
    · obtain ⟨g0, h1, h2⟩ := h.dom hg
      obtain ⟨gm0, k1, k2⟩ := h.dom hgm
      obtain ⟨s1, s2, s3, s4, s5, s6, s7, s8, s9⟩ := h2.spec
      rw [← s8, L.hl r g0 h1 p m (s2 ▸ hpm) ((s5 p).2 hp) gm0 k1, k2.spec.1]
    · obtain ⟨g0, h1, h2⟩ := h.dom hg
      obtain ⟨s1, s2, s3, s4, s5, s6, s7, s8, s9⟩ := h2.spec
      obtain ⟨p, m, k1, k2, k3⟩ := L.told r g0 h1 q hq
      exact ⟨p, m, s2 ▸ k1, s3 ▸ k2, (s5 p).1 k3⟩
    · obtain ⟨g0, h1, h2⟩ := h.dom hg
      obtain ⟨s1, s2, s3, s4, s5, s6, s7, s8, s9⟩ := h2.spec
      obtain ⟨k1, k2, u, k3, k4⟩ := L.ht r g0 h1 p m (s2 ▸ hpm)
      exact ⟨k1, fun hc => (s5 p).1 (k2 (s4.trans hc)), u, (s6 p).symm.trans k3, k4⟩

inductive AExit where
  | normal
  | exit (id : Nat)
  | ret
/-- A loop told: the shape at its head (nt: of so many temporaries of its own), what must hold there, what it comes to. -/
structure Loop where
  nt : Nat
  ts : List Slot
  rs : List (Nat × RSlot)
  next : Nat
  pre : tden ts → gden rs → Prop
  m : tden ts → gden rs → Nat
  out : tden ts → gden rs → (AExit → St → Prop) → Prop
def Loop.abs (L : Loop) (x : tden L.ts) (y : gden L.rs) : St := ⟨(absTm L.ts x).take L.nt, absRg L.rs y, L.next, (absTm L.ts x).drop L.nt⟩
def wkSt (L : Loop) (st : St) : St := ⟨st.tmps, wkRg L.rs st.regs, st.next, st.gh⟩
def Loop.enter (L : Loop) (st : St) (K : AExit → St → Prop) : Prop :=
  match st with
  | ⟨tm, rs, n, gh⟩ => match readTm L.ts (tm ++ gh) with
    | some x => match readRg L.rs (wkRg L.rs rs) with
      | some y => if n = L.next ∧ tm.length = L.nt then L.pre x y ∧ L.out x y K else False
      | none => False
    | none => False
theorem Loop.enter_spec {L : Loop} {st : St} {K : AExit → St → Prop} (h : L.enter st K) : ∃ x y, wkSt L st = L.abs x y ∧ L.pre x y ∧ L.out x y K := by
  obtain ⟨tm, rs, n, gh⟩ := st
  simp only [Loop.enter] at h
  split at h
  · rename_i hx
    split at h
    · rename_i hy
      split at h
      · rename_i e
        refine ⟨_, _, ?_, h⟩
        unfold Loop.abs wkSt
        rw [readTm_abs hx, readRg_abs hy, ← e.2, List.take_left', List.drop_left'] <;> simp [e.1]
      · exact h.elim
    · exact h.elim
  · exact h.elim
/-- The same at the end of a round: it has come down. -/
def Loop.again (L : Loop) (m0 : Nat) (st : St) (K : AExit → St → Prop) : Prop :=
  match st with
  | ⟨tm, rs, n, gh⟩ => match readTm L.ts (tm ++ gh) with
    | some x => match readRg L.rs (wkRg L.rs rs) with
      | some y => if n = L.next ∧ tm.length = L.nt then L.pre x y ∧ L.m x y < m0 ∧ L.out x y K else False
      | none => False
    | none => False
theorem Loop.again_spec {L : Loop} {m0 : Nat} {st : St} {K : AExit → St → Prop} (h : L.again m0 st K) : ∃ x y, wkSt L st = L.abs x y ∧ L.pre x y ∧ L.m x y < m0 ∧ L.out x y K := by
  obtain ⟨tm, rs, n, gh⟩ := st
  simp only [Loop.again] at h
  split at h
  · rename_i hx
    split at h
    · rename_i hy
      split at h
      · rename_i e
        refine ⟨_, _, ?_, h⟩
        unfold Loop.abs wkSt
        rw [readTm_abs hx, readRg_abs hy, ← e.2, List.take_left', List.drop_left'] <;> simp [e.1]
      · exact h.elim
    · exact h.elim
  · exact h.elim

end Go.Lift
