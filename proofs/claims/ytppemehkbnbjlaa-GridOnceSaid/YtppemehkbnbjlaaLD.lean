/- Lines for the functions of this seat; merged from texts of their own. -/
import Derived.Test.YtppemehkbnbjlaaLC
import Derived.Lib.SliceRun
set_option linter.unusedVariables false
set_option linter.unusedSimpArgs false
/- One operation of a region, with its guard, calls among them; a region in the text's order. -/
namespace Go.Lift
open Go

/-- What a call comes to that is run through in place: what must hold for what is to come. -/
abbrev InlP := List AV → St → (AV → St → Prop) → Prop
structure Env where
  P : Program
  sum : FuncId → Option Summ
  /-- how many regions came in -/
  nio : Nat
  /-- what lives at the head of a loop, by the number of the block round it; which slices are to be grown there -/
  head : Nat → List Tmp × List (Tmp × Ty)
  /-- what lives behind a block -/
  after : Nat → Option (List Tmp)
  /-- what lives where a loop is left -/
  leave : Nat → List Tmp
  /-- the loops, by the same numbers -/
  loops : Nat → Option Loop
  /-- whether a part of a slice is told as one -/
  vw : Bool := false
  /-- the first number that is made in the region at hand -/
  n0 : Nat := 0
  /-- tests of the region at hand that are taken as so; as not so -/
  on : List (Nat × Bool) := []
  off : List (Nat × Bool) := []
  /-- what may be nothing stays told so (in a region of drawn order) -/
  nb : Bool := false
  /-- the functions that are run through in place -/
  inl : List (FuncId × InlP) := []
  /-- what is opened anew gets a name of its own -/
  gen : Bool := false
def EnvOK (E : Env) : Prop := (∀ f S, E.sum f = some S → SumOK E.P f S) ∧ E.P.follows .mixedOrders = true

def tmpsOf (l : List Operand) : List Tmp := l.filterMap fun
  | .tmp t => some t
  | _ => none

/-- A slice that is nil if it is empty, as a slice. -/
def weakS : SV → SV
  | .valn t xs => .val (.ro t) xs
  | v => v
theorem weakS_sound {rs : Regs} {φ : Phi} {ok : Nat → Prop} {w : World} {v : SV} {V : Value} (h : SVRel rs φ ok w v V) : SVRel rs φ ok w (weakS v) V := by
  cases v <;> first | exact h.1 | exact h
/-- An operand's value; t must be one of ts. -/
def argA (tm : List AV) (ts : List Tmp) : Operand → Option AV
  | .tmp t => if ts.contains t = true then (match tm[t]? with
      | some (.gd _ _ _ v) => some (.s (weakS v))
      | some (.s v) => some (.s (weakS v))
      | r => r) else none
  | .const v => (constAV v).map AV.s
  | .func f => some (.fn f [])
  | .global _ => none
def argS (tm : List AV) (ts : List Tmp) (x : Operand) : Option SV :=
  match argA tm ts x with
  | some (.s v) => some v
  | some (.fn f []) => some (.fn0 f)
  | some (.fn f [.addr r p]) => some (.fna f r p)
  | some (.fn f [.ra t x]) => some (.fnr f t x)
  | _ => none
def gdOf (tm : List AV) (t : Tmp) : List Prop :=
  match tm[t]? with
  | some (.gd _ b w _) => [b = w]
  | _ => []
def gdVC (tm : List AV) (ts : List Tmp) : List Prop := ts.flatMap (gdOf tm)

theorem argA_sound {cx : Cx} {φ : Phi} {st : St} {a : Act} {w : World} (R : RelF cx φ st a w) {ts : List Tmp} (hvc : ∀ p ∈ gdVC st.tmps ts, p) {x : Operand} {v : AV} (h : argA st.tmps ts x = some v) :
    AVRel st.regs φ (okOf st.regs φ) w v (a.eval x) := by
  cases x with
  | tmp t =>
    simp only [argA] at h
    split at h
    · rename_i hm
      cases hv : st.tmps[t]? with
      | none => rw [hv] at h; cases h
      | some av =>
        rw [hv] at h
        have hr := R.tm t av hv
        cases av with
        | gd k b w' s =>
          simp only [Option.some.injEq] at h
          subst h
          have : b = w' := hvc _ (List.mem_flatMap.2 ⟨t, by simpa using hm, by simp [gdOf, hv]⟩)
          exact weakS_sound (hr.1 this)
        | s x => cases h; exact weakS_sound hr
        | tup x => cases h; exact hr
        | fn f x => cases h; exact hr
    · cases h
  | const c =>
    simp only [argA, Option.map_eq_some_iff] at h
    obtain ⟨s, hs, rfl⟩ := h
    exact constAV_sound hs
  | global g => simp [argA] at h
  | func f => simp only [argA, Option.some.injEq] at h; subst h; exact ⟨#[], rfl, .nil⟩
theorem fna_sv {rs : Regs} {φ : Phi} {ok : Nat → Prop} {w : World} {f : FuncId} {r : Nat} {p : List Step} {V : Value} (h : AVRel rs φ ok w (.fn f [.addr r p]) V) : SVRel rs φ ok w (.fna f r p) V := by
  obtain ⟨cs, h1, h2⟩ := h
  obtain ⟨ct, hc, h3⟩ : ∃ pv, cs = #[pv] ∧ SVRel rs φ ok w (.addr r p) pv := by
    cases hc : cs.toList with
    | nil => rw [hc] at h2; cases h2
    | cons x l =>
      rw [hc] at h2
      cases h2 with
      | cons h3 h4 => cases h4; exact ⟨x, by cases cs; simp_all, h3⟩
  subst hc
  exact ⟨ct, h1, h3⟩
theorem fnr_sv {rs : Regs} {φ : Phi} {ok : Nat → Prop} {w : World} {f : FuncId} {t : Ty} {x : t.den} {V : Value} (h : AVRel rs φ ok w (.fn f [.ra t x]) V) : SVRel rs φ ok w (.fnr f t x) V := by
  obtain ⟨cs, h1, h2⟩ := h
  obtain ⟨ct, hc, h3⟩ : ∃ pv, cs = #[pv] ∧ SVRel rs φ ok w (.ra t x) pv := by
    cases hc : cs.toList with
    | nil => rw [hc] at h2; cases h2
    | cons x l =>
      rw [hc] at h2
      cases h2 with
      | cons h3 h4 => cases h4; exact ⟨x, by cases cs; simp_all, h3⟩
  subst hc
  obtain ⟨b, o, cs, ty, fz, e1, e2, e3, e4⟩ := h3
  exact ⟨b, o, cs, ty, fz, by rw [h1, e1], e2, e3, e4⟩
theorem argS_sound {cx : Cx} {φ : Phi} {st : St} {a : Act} {w : World} (R : RelF cx φ st a w) {ts : List Tmp} (hvc : ∀ p ∈ gdVC st.tmps ts, p) {x : Operand} {v : SV} (h : argS st.tmps ts x = some v) :
    SVRel st.regs φ (okOf st.regs φ) w v (a.eval x) := by
  unfold argS at h
  split at h
  · rename_i s hs
    cases h
    exact argA_sound R hvc hs
  · rename_i f hs
    cases h
    obtain ⟨cs, h1, h2⟩ := argA_sound R hvc hs
    have : cs = #[] := by
      cases hc : cs.toList with
      | nil => cases cs; simp_all
      | cons x l => rw [hc] at h2; cases h2
    subst this
    exact h1
  · rename_i f r p hs
    cases h
    exact fna_sv (argA_sound R hvc hs)
  · rename_i f t x hs
    cases h
    exact fnr_sv (argA_sound R hvc hs)
  · cases h
/-- A function's value, with what it holds. -/
def asFn : AV → AV
  | .s (.fna f r p) => .fn f [.addr r p]
  | .s (.fnr f t x) => .fn f [.ra t x]
  | v => v
theorem asFn_sound {rs : Regs} {φ : Phi} {ok : Nat → Prop} {w : World} {v : AV} {V : Value} (h : AVRel rs φ ok w v V) : AVRel rs φ ok w (asFn v) V := by
  unfold asFn
  split
  · obtain ⟨pv, h1, h2⟩ := h
    exact ⟨#[pv], h1, .cons h2 .nil⟩
  · obtain ⟨b, o, cs, ty, fz, e1, e2, e3, e4⟩ := h
    exact ⟨#[_], e1, .cons ⟨b, o, cs, ty, fz, rfl, e2, e3, e4⟩ .nil⟩
  · exact h
def argF (tm : List AV) (ts : List Tmp) (x : Operand) : Option AV := (argA tm ts x).map asFn
theorem argF_sound {cx : Cx} {φ : Phi} {st : St} {a : Act} {w : World} (R : RelF cx φ st a w) {ts : List Tmp} (hvc : ∀ p ∈ gdVC st.tmps ts, p) {x : Operand} {v : AV} (h : argF st.tmps ts x = some v) :
    AVRel st.regs φ (okOf st.regs φ) w v (a.eval x) := by
  unfold argF at h
  rw [Option.map_eq_some_iff] at h
  obtain ⟨v0, h0, rfl⟩ := h
  exact asFn_sound (argA_sound R hvc h0)

/-- May it be called? -/
def callable (P : Program) (f : FuncId) : Bool :=
  match P.funcs[f]? with
  | some fn => !(fn.name == "runtime.NumGoroutine") && fn.body.isSome
  | none => false

def rawV (tm : List AV) : Operand → Option (List Prop × SV)
  | .tmp t => match tm[t]? with
    | some (.s v) => some ([], v)
    | some (.gd _ b w v) => some ([b = w], v)
    | _ => none
  | .const v => (constAV v).map fun s => ([], s)
  | _ => none
theorem rawV_sound {cx : Cx} {φ : Phi} {st : St} {a : Act} {w : World} (R : RelF cx φ st a w) {x : Operand} {vc : List Prop} {v : SV} (h : rawV st.tmps x = some (vc, v)) (hvc : ∀ p ∈ vc, p) :
    SVRel st.regs φ (okOf st.regs φ) w v (a.eval x) := by
  unfold rawV at h
  split at h
  · rename_i t
    split at h
    · rename_i hv; cases h; exact R.tm t _ hv
    · rename_i hv; cases h; exact (R.tm t _ hv).1 (hvc _ (by simp))
    · cases h
  · simp only [Option.map_eq_some_iff] at h
    obtain ⟨s, hs, e⟩ := h
    cases e
    exact constAV_sound hs
  · cases h

def pickV (tm : List AV) (c a b : Operand) : Option Out :=
  match rawV tm c, rawV tm a, rawV tm b with
  | some (vc0, .val .bool c), some (vc1, .val t x), some (vc2, .val u y) => match castTy u t y with
    | some y => some (vc0 ++ vc1.map (fun p => c = true → p) ++ vc2.map (fun p => c = false → p), .s (.val t (if c = true then x else y)), [])
    | none => none
  | some (vc0, .val .bool c), some (_, .undef), some (vc2, .val u y) => some (vc0 ++ [c = true → False] ++ vc2.map (fun p => c = false → p), .s (.val u y), [])
  | some (vc0, .val .bool c), some (vc1, .val t x), some (_, .undef) => some (vc0 ++ vc1.map (fun p => c = true → p) ++ [c = false → False], .s (.val t x), [])
  | _, _, _ => none

/-- Whether a slice is nil. -/
def nilCmp (rs : Regs) (neg : Bool) : SV → Option SV
  | .valn _ xs => some (vB (xs.isEmpty != neg))
  | .nilsl => some (vB (!neg))
  | .val (.ro _) xs => some (.nilq (List.isEmpty xs) neg)
  | .sl r => match look rs r with
    | some (.row _ xs _) => some (.nilq xs.isEmpty neg)
    | _ => none
  | _ => none
def isSliceT (P : Program) (t : TypeId) : Bool :=
  match P.underlying t with
  | some (.slice _) => true
  | _ => false
def nilTest (P : Program) : Op → Option (Bool × Operand)
  | .binOp .eql t x (.const (.slice none 0 0)) _ => if isSliceT P t = true then some (false, x) else none
  | .binOp .neq t x (.const (.slice none 0 0)) _ => if isSliceT P t = true then some (true, x) else none
  | _ => none
def nilOut (rs : Regs) (neg : Bool) : Option (List Prop × SV) → Option Out
  | some (vc, v) => (nilCmp rs neg v).map fun r => (vc, .s r, [])
  | none => none

/-! ### a call -/
theorem gclose_look {rs rs' : Regs} {r m : Nat} (h : gclose rs r m = some rs') : ∃ g, rs' = drop (upd rs r (some g)) m := by
  unfold gclose at h
  split at h
  · split at h
    · unfold gcloseC at h
      split at h
      · split at h
        · split at h
          · split at h
            · split at h
              · split at h
                · rw [Option.map_eq_some_iff] at h
                  obtain ⟨g, _, e⟩ := h
                  exact ⟨g, e.symm⟩
                · cases h
              · cases h
            · cases h
          · cases h
        · cases h
      · cases h
    · unfold gcloseM at h
      split at h
      · split at h
        · split at h
          · split at h
            · rw [Option.map_eq_some_iff] at h
              obtain ⟨y, _, e⟩ := h
              exact ⟨_, e.symm⟩
            · cases h
          · cases h
        · cases h
      · cases h
  · cases h
def pairsUnder : Nat → Regs → Nat → List (Nat × Nat)
  | 0, _, _ => []
  | k + 1, rs, r => match look rs r with
    | some g => g.holes.flatMap fun q => match look rs q.2 with
      | some _ => pairsUnder k rs q.2 ++ [(r, q.2)]
      | none => []
    | none => []
def closeL : List (Nat × Nat) → Regs → Option Regs
  | [], rs => some rs
  | (r, m) :: l, rs => match look rs m with
    | none => closeL l rs
    | some _ => match gclose rs r m with
      | some rs' => closeL l rs'
      | none => none
def readPairs (rs : Regs) : List PK → List SV → List (Nat × Nat)
  | p :: ps, v :: vs => (match p with
    | .v _ => match v with
      | .sl r => pairsUnder 8 rs r
      | .slv r _ _ => pairsUnder 8 rs r
      | _ => []
    | .ref _ => match v with
      | .addr r _ => pairsUnder 8 rs r
      | _ => []
    | .fnr _ _ => match v with
      | .fna _ r _ => pairsUnder 8 rs r
      | _ => []
    | _ => []) ++ readPairs rs ps vs
  | _, _ => []
/-- What is only read is seen shut. -/
def callC (S : Summ) (rs : Regs) (n : Nat) (vs : List SV) : Option Out :=
  match readPairs rs S.par vs with
  | [] => callV S rs [] n vs
  | l => match closeL l rs with
    | some rsC => callV S rsC (l.flatMap fun q => [q.1, q.2]) n vs
    | none => none
theorem closeL_sound {cx : Cx} {a : Act} {w : World} : ∀ (l : List (Nat × Nat)) {φ : Phi} {st : St} {rs' : Regs}, RelF cx φ st a w → closeL l st.regs = some rs' →
    ∃ φ', RelF cx φ' { st with regs := rs' } a w ∧ ∀ s, s ∉ (l.flatMap fun q => [q.1, q.2]) → φ' s = φ s ∧ look rs' s = look st.regs s
  | [], φ, st, rs', R, h => by
    simp only [closeL, Option.some.injEq] at h
    subst h
    exact ⟨φ, R, fun _ _ => ⟨rfl, rfl⟩⟩
  | (r, m) :: l, φ, st, rs', R, h => by
    simp only [closeL] at h
    split at h
    · obtain ⟨φ', R', h2⟩ := closeL_sound l R h
      refine ⟨φ', R', fun s hs => h2 s fun hm => hs ?_⟩
      simp only [List.flatMap_cons, List.mem_append]
      exact .inr hm
    · split at h
      · rename_i rs1 hg
        obtain ⟨φ1, k1, R1⟩ := gclose_sound' R hg
        obtain ⟨g0, e⟩ := gclose_look hg
        obtain ⟨φ', R', h2⟩ := closeL_sound l (st := { st with regs := rs1 }) R1 h
        refine ⟨φ', R', fun s hs => ?_⟩
        simp only [List.flatMap_cons, List.mem_append, List.mem_cons, List.not_mem_nil, or_false, not_or] at hs
        obtain ⟨⟨e1, e2⟩, e3⟩ := hs
        obtain ⟨j1, j2⟩ := h2 s e3
        refine ⟨j1.trans (k1 s e1), j2.trans ?_⟩
        show look rs1 s = look st.regs s
        rw [e, look_drop, look_upd, if_neg (fun h => e2 h.symm), if_neg (fun h => e1 h.symm)]
      · cases h
theorem callC_sound {cx : Cx} {φ : Phi} {st : St} {a : Act} {w : World} (R : RelF cx φ st a w) {f : FuncId} {S : Summ} (hS : SumOK cx.P f S) {n : Nat} (hf : ∀ k, k < 8 → FreshN cx st (n + k))
    {vs : List SV} {Vs : List Value} {vc : List Prop} {av : AV} {e : Eff} (h : callC S st.regs n vs = some (vc, av, e)) (hvc : ∀ p ∈ vc, p)
    (hall : ∀ {φ' : Phi} {rs' : Regs}, RelF cx φ' { st with regs := rs' } a w → All2 (SVRel rs' φ' (okOf rs' φ') w) vs Vs) :
    Calls cx.P f Vs.toArray w fun e' w' => ∃ V φ', e' = .returned V ∧ RelF cx φ' { st with regs := e.app st.regs } a w' ∧ AVRel (e.app st.regs) φ' (okOf (e.app st.regs) φ') w' av V := by
  unfold callC at h
  split at h
  · exact callV_sound R hS hf (rsC := st.regs) (cl := []) (φc := φ) R (fun _ _ => ⟨rfl, rfl⟩) (fun _ b hb => hb) h hvc (hall (rs' := st.regs) R)
  · rename_i l hne
    split at h
    · rename_i rsC hc
      obtain ⟨φc, RC, hcl⟩ := closeL_sound _ R hc
      refine callV_sound R hS hf RC hcl (fun hnil b hb => ?_) h hvc (hall RC)
      exfalso
      cases hl : readPairs st.regs S.par vs with
      | nil => exact hne hl
      | cons q l => rw [hl] at hnil; simp at hnil
    · cases h

def opPlain (E : Env) (tm : List AV) (rs : Regs) (n : Nat) (o : Oper) : Option Out :=
  match nilTest E.P o.op with
  | some (neg, x) => nilOut rs neg (rawV tm x)
  | none => match o.op with
  | .pick c a b => pickV tm c a b
  | .call { callee := .value f, args := args, argTypes := _ } =>
    let ts := tmpsOf (f :: args.toList)
    match argF tm ts f, mapArgs (argS tm ts) args.toList with
    | some (.fn fid caps), some vs => match E.sum fid with
      | some S => if callable E.P fid = true then (callC S rs n (vs ++ caps)).map fun r => (gdVC tm ts ++ r.1, r.2) else none
      | none => none
    | _, _ => none
  | _ => let ts := tmpsOf o.op.operands.toList
    (core E.vw (o.guard.isSome || E.nb) E.P rs n (argS tm ts) (argA tm ts) o).map fun r => (gdVC tm ts ++ r.1, r.2)

/-- What an operation comes to, whatever stands behind it. -/
def Does (cx : Cx) (st : St) (a : Act) (w : World) (o : Oper) (av : AV) (e : Eff) : Prop :=
  ∀ (next : Act → World → Prop) (Q : Exit → Act → World → Prop),
    (∀ V w' φ', RelF cx φ' { st with regs := e.app st.regs } a w' → AVRel (e.app st.regs) φ' (okOf (e.app st.regs) φ') w' av V → next (a.put o.dst V) w') → o.wp cx.P a w next Q

theorem Does.of_tells {cx : Cx} {st : St} {a : Act} {w : World} {o : Oper} {av : AV} {e : Eff} (h : Tells cx st a w o av e) : Does cx st a w o av e := by
  obtain ⟨r, V, w', φ', h1, h2, h3, h4⟩ := h
  intro next Q hn
  unfold Oper.wp
  rw [h1]
  rcases h2 with rfl | ⟨rfl, rfl⟩
  · exact hn _ _ _ h3 h4
  · exact hn _ _ _ h3 h4

theorem run_eql_slice_nilS {P : Program} {w : World} {t e : TypeId} {a : Option Addr} {n c : Nat} (h : P.underlying t = some (.slice e)) : (binOp .eql t (.slice a n c) (.slice none 0 0)).run P w = .ok (.bool (a.isNone != false)) w := by
  simp only [binOp]
  simp [Op.equal, Op.maxDepth, Lib.run_equalIn_slice_nil w 9999 t e a n c 0 0 h]
theorem run_neq_slice_nilS {P : Program} {w : World} {t e : TypeId} {a : Option Addr} {n c : Nat} (h : P.underlying t = some (.slice e)) : (binOp .neq t (.slice a n c) (.slice none 0 0)).run P w = .ok (.bool (a.isNone != true)) w := by
  simp only [binOp]
  simp [Op.equal, Op.maxDepth, Lib.run_equalIn_slice_nil w 9999 t e a n c 0 0 h]
theorem nilOut_sound {cx : Cx} {φ : Phi} {st : St} {a : Act} {w : World} (R : RelF cx φ st a w) {o : Oper} {neg : Bool} {x : Operand} (ht : nilTest cx.P o.op = some (neg, x)) {vc : List Prop} {av : AV} {e : Eff}
    (h : nilOut st.regs neg (rawV st.tmps x) = some (vc, av, e)) (hvc : ∀ p ∈ vc, p) : Does cx st a w o av e := by
  unfold nilOut at h
  split at h
  · rename_i vc' v hr
    rw [Option.map_eq_some_iff] at h
    obtain ⟨r, hc, e1⟩ := h
    cases e1
    have hv := rawV_sound R hr hvc
    -- what the machine says
    have key : ∃ (ad : Option Addr) (len cap : Nat), a.eval x = .slice ad len cap ∧ SVRel st.regs φ (okOf st.regs φ) w r (.bool (ad.isNone != neg)) := by
      unfold nilCmp at hc
      split at hc
      · rename_i t xs
        cases hc
        obtain ⟨⟨⟨ad, cap, h0, h1, h2⟩, h3, h4⟩, h5⟩ := hv
        have hV : a.eval x = .slice ad (List.length xs) cap := by
          cases hx : a.eval x with
          | agg l => rw [hx] at h4; simp [Value.isAgg, Ty.agg] at h4
          | slice a1 l1 c1 => rw [hx] at h0; simp [Value.cells] at h0; obtain ⟨rfl, rfl, rfl⟩ := h0; rfl
          | _ => rw [hx] at h0; simp [Value.cells] at h0
        refine ⟨ad, _, _, hV, ?_⟩
        have : xs.isEmpty = ad.isNone := by
          by_cases hxs : xs = []
          · have := h5 hxs
            rw [hV] at this
            have e := (Value.slice.inj this).1
            subst e
            rw [hxs]; rfl
          · rcases h2 with h2 | ⟨b, off, cs, ty, fz, ha, _⟩
            · exact (hxs h2).elim
            · subst ha
              cases xs with
              | nil => exact (hxs rfl).elim
              | cons y ys => rfl
        rw [this]
        exact VRel.of_bool _ _ _
      · cases hc
        have hv' : a.eval x = .slice none 0 0 := hv
        exact ⟨none, 0, 0, hv', by cases neg <;> exact VRel.of_bool _ _ _⟩
      · rename_i t xs
        cases hc
        obtain ⟨⟨ad, cap, h0, h1, h2⟩, h3, h4⟩ := hv
        have hV : a.eval x = .slice ad (List.length xs) cap := by
          cases hx : a.eval x with
          | agg l => rw [hx] at h4; simp [Value.isAgg, Ty.agg] at h4
          | slice a1 l1 c1 => rw [hx] at h0; simp [Value.cells] at h0; obtain ⟨rfl, rfl, rfl⟩ := h0; rfl
          | _ => rw [hx] at h0; simp [Value.cells] at h0
        refine ⟨ad, _, _, hV, _, rfl, fun hb => ?_⟩
        rcases h2 with h2 | ⟨b, off, cs, ty, fz, ha, _⟩
        · rw [h2]; rfl
        · subst ha
          cases neg <;> simp at hb
      · rename_i rg
        split at hc
        · rename_i t xs H hl
          cases hc
          have hV := hv t xs H hl
          refine ⟨_, _, _, hV, _, rfl, fun hb => ?_⟩
          have hat := R.lay.rg rg _ hl
          obtain ⟨hlen, hblk⟩ := hat
          unfold Sub.addr Sub.blk at hb
          cases hbk : ((φ rg) []).blk with
          | none =>
            rw [hbk] at hblk
            have hcap : ((φ rg) []).cap = 0 := hblk
            have : xs.length = 0 := by omega
            rw [List.length_eq_zero_iff] at this
            rw [this]; rfl
          | some b =>
            rw [hbk] at hb
            cases neg <;> simp at hb
        · cases hc
      · cases hc
    obtain ⟨ad, len, cap, hV, hrel⟩ := key
    refine Does.of_tells ⟨.value (.bool (ad.isNone != neg)), _, w, φ, ?_, .inl rfl, R, hrel⟩
    unfold nilTest at ht
    split at ht
    · rename_i t x' yt hop
      split at ht
      · rename_i hT
        cases ht
        simp only [isSliceT] at hT
        split at hT
        · rename_i el hu
          have hc0 : a.eval (.const (.slice none 0 0)) = .slice none 0 0 := rfl
          simp [execOp, hop, hV, hc0, eqGuard, run_eql_slice_nilS hu]
        · cases hT
      · cases ht
    · rename_i t x' yt hop
      split at ht
      · rename_i hT
        cases ht
        simp only [isSliceT] at hT
        split at hT
        · rename_i el hu
          have hc0 : a.eval (.const (.slice none 0 0)) = .slice none 0 0 := rfl
          simp [execOp, hop, hV, hc0, eqGuard, run_neq_slice_nilS hu]
        · cases hT
      · cases ht
    · cases ht
  · cases h
theorem opPlain_sound {E : Env} (hE : EnvOK E) {cx : Cx} (hP : cx.P = E.P) {φ : Phi} {st : St} {a : Act} {w : World} (R : RelF cx φ st a w) {n : Nat} (hf : ∀ k, k < 8 → FreshN cx st (n + k)) {o : Oper} {vc : List Prop} {av : AV} {e : Eff}
    (h : opPlain E st.tmps st.regs n o = some (vc, av, e)) (hvc : ∀ p ∈ vc, p) : Does cx st a w o av e := by
  unfold opPlain at h
  split at h
  · rename_i neg x hnt
    exact nilOut_sound R (hP ▸ hnt) h hvc
  split at h
  · rename_i c x y ho
    unfold pickV at h
    split at h
    · rename_i vc0 c' vc1 t x' vc2 u y' hc hx hy
      split at h
      · rename_i y2 hcast
        cases h
        obtain ⟨e1, e2⟩ := castTy_some hcast
        subst e1; subst e2
        have hC := rawV_sound R hc (fun p hp => hvc p (by simp [hp]))
        have eC := VRel.bool_eq hC
        apply Does.of_tells
        cases hb : c' with
        | true =>
          rw [hb] at eC
          have hX := rawV_sound R hx (fun p hp => hvc (c' = true → p) (List.mem_append_left _ (List.mem_append_right _ (List.mem_map.2 ⟨p, hp, rfl⟩))) hb)
          exact ⟨.value (a.eval x), a.eval x, w, φ, by simp [execOp, ho, eC, asBool], .inl rfl, R, by simp only [if_true]; exact hX⟩
        | false =>
          rw [hb] at eC
          have hY := rawV_sound R hy (fun p hp => hvc (c' = false → p) (List.mem_append_right _ (List.mem_map.2 ⟨p, hp, rfl⟩)) hb)
          exact ⟨.value (a.eval y), a.eval y, w, φ, by simp [execOp, ho, eC, asBool], .inl rfl, R, by simp only [Bool.false_eq_true, if_false]; exact hY⟩
      · cases h
    · rename_i vc0 c' vc1 vc2 u y' hc hx hy
      cases h
      have hC := rawV_sound R hc (fun p hp => hvc p (by simp [hp]))
      have eC := VRel.bool_eq hC
      have hb : c' = false := by
        have : c' = true → False := hvc _ (by simp)
        cases c' with
        | true => exact (this rfl).elim
        | false => rfl
      apply Does.of_tells
      rw [hb] at eC
      have hY := rawV_sound R hy (fun p hp => hvc (c' = false → p) (List.mem_append_right _ (List.mem_map.2 ⟨p, hp, rfl⟩)) hb)
      exact ⟨.value (a.eval y), a.eval y, w, φ, by simp [execOp, ho, eC, asBool], .inl rfl, R, hY⟩
    · rename_i vc0 c' vc1 t x' vc2 hc hx hy
      cases h
      have hC := rawV_sound R hc (fun p hp => hvc p (by simp [hp]))
      have eC := VRel.bool_eq hC
      have hb : c' = true := by
        have : c' = false → False := hvc _ (by simp)
        cases c' with
        | false => exact (this rfl).elim
        | true => rfl
      apply Does.of_tells
      rw [hb] at eC
      have hX := rawV_sound R hx (fun p hp => hvc (c' = true → p) (List.mem_append_left _ (List.mem_append_right _ (List.mem_map.2 ⟨p, hp, rfl⟩))) hb)
      exact ⟨.value (a.eval x), a.eval x, w, φ, by simp [execOp, ho, eC, asBool], .inl rfl, R, hX⟩
    · cases h
  · rename_i f args ty ho
    simp only at h
    split at h
    · rename_i fid caps vs hfn hvs
      split at h
      · rename_i S hS
        split at h
        · rename_i hcall
          rw [Option.map_eq_some_iff] at h
          obtain ⟨⟨vc', av', e'⟩, hcv, e1⟩ := h
          cases e1
          have hgd : ∀ p ∈ gdVC st.tmps (tmpsOf (f :: args.toList)), p := fun p hp => hvc p (by simp [hp])
          have hfn' := argF_sound R hgd hfn
          obtain ⟨cs, hcs, hcaps⟩ := hfn'
          have hall : ∀ {φ' : Phi} {rs' : Regs}, RelF cx φ' { st with regs := rs' } a w → All2 (SVRel rs' φ' (okOf rs' φ') w) (vs ++ caps) (args.toList.map a.eval ++ cs.toList) := by
            intro φ' rs' RC
            have hargs := mapArgs_sound (S := SVRel rs' φ' (okOf rs' φ') w) (ev := a.eval) (fun x v hx => argS_sound RC hgd hx) _ _ hvs
            obtain ⟨cs', hcs', hcaps⟩ := argF_sound RC hgd hfn
            rw [hcs] at hcs'
            cases hcs'
            clear hcv hvs
            generalize args.toList.map a.eval = As at hargs
            induction hargs with
            | nil => exact hcaps
            | cons h1 _ ih => exact .cons h1 ih
          have hC := callC_sound R (f := fid) (by rw [hP]; exact hE.1 fid S hS) hf hcv (fun p hp => hvc p (by simp [hp])) hall
          have hrun : (execOp a.eval o).run cx.P w = .ok (.enter fid (args.map a.eval ++ cs)) w := by
            unfold callable at hcall
            rw [← hP] at hcall
            cases hfs : cx.P.funcs[fid]? with
            | none => simp [hfs] at hcall
            | some fn =>
              simp only [hfs, Bool.and_eq_true, Bool.not_eq_true'] at hcall
              obtain ⟨hc1, hc2⟩ := hcall
              have hbn : ¬ fn.body = none := by
                intro hb; rw [hb] at hc2; cases hc2
              have hc1' : ¬ fn.name = "runtime.NumGoroutine" := by simpa using hc1
              simp [execOp, ho, resolve, hcs, Deferred.ofValue, invoke, callFunc, hfs, hc1', hbn]
          intro next Q hn
          unfold Oper.wp
          rw [hrun, Oper.upon_enter]
          have : (args.map a.eval ++ cs) = (args.toList.map a.eval ++ cs.toList).toArray := by
            apply Array.ext'
            simp
          rw [this]
          refine hC.mono ?_
          rintro e' w' ⟨V, φ', rfl, h3, h4⟩
          exact hn V w' φ' h3 h4
        · cases h
      · cases h
    · cases h
  · simp only at h
    rw [Option.map_eq_some_iff] at h
    obtain ⟨⟨vc', av', e'⟩, hcv, e1⟩ := h
    cases e1
    have hgd : ∀ p ∈ gdVC st.tmps (tmpsOf o.op.operands.toList), p := fun p hp => hvc p (by simp [hp])
    have hf0 := hf 0 (by omega)
    rw [Nat.add_zero] at hf0
    rw [← hP] at hcv
    exact Does.of_tells (core_sound R hf0 hcv (fun p hp => hvc p (by simp [hp])) (fun x v hx => argS_sound R hgd hx) (fun x v hx => argA_sound R hgd hx))

/-! ### what is named stays below a number -/
def hsLt (n : Nat) (H : Holes) : Bool := H.all fun q => decide (q.2 < n)
theorem hsLt_spec {n : Nat} {H : Holes} (h : hsLt n H = true) {p : List Step} {m : Nat} (hm : (p, m) ∈ H) : m < n := by simpa using List.all_eq_true.1 h _ hm
def SV.ltB (n : Nat) : SV → Bool
  | .sl r => decide (r < n)
  | .addr r _ => decide (r < n)
  | .nst _ _ H => hsLt n H
  | .mp r => decide (r < n)
  | .slv r _ _ => decide (r < n)
  | .fna _ r _ => decide (r < n)
  | _ => true
def AV.ltB (n : Nat) : AV → Bool
  | .s v => v.ltB n
  | .tup vs => vs.all (SV.ltB n)
  | .fn _ vs => vs.all (SV.ltB n)
  | .gd _ _ _ v => v.ltB n
theorem SV.ltB_spec {n : Nat} {v : SV} (h : v.ltB n = true) {m : Nat} (hm : v.mentions m) : m < n := by
  cases v with
  | sl r => simp [SV.ltB, SV.mentions] at h hm; omega
  | addr r p => simp [SV.ltB, SV.mentions] at h hm; omega
  | mp r => simp [SV.ltB, SV.mentions] at h hm; omega
  | slv r lo hi => simp [SV.ltB, SV.mentions] at h hm; omega
  | fna f r p => simp [SV.ltB, SV.mentions] at h hm; omega
  | nst t x H => obtain ⟨p, hp⟩ := hm; exact hsLt_spec h hp
  | _ => exact hm.elim
theorem AV.ltB_spec {n : Nat} {v : AV} (h : v.ltB n = true) {m : Nat} (hm : v.mentions m) : m < n := by
  cases v with
  | s v => exact SV.ltB_spec h hm
  | tup vs => obtain ⟨v, hv, hm⟩ := hm; exact SV.ltB_spec (List.all_eq_true.1 h v hv) hm
  | fn f vs => obtain ⟨v, hv, hm⟩ := hm; exact SV.ltB_spec (List.all_eq_true.1 h v hv) hm
  | gd k b w v => exact SV.ltB_spec h hm
def EffI.ltB (n : Nat) : EffI → Bool
  | .set _ m g => decide (m < n) && hsLt n g.holes
  | .del _ => true
def Eff.ltB (n : Nat) (e : Eff) : Bool := e.all (EffI.ltB n)
theorem look_app_lt {n : Nat} : ∀ {e : Eff} {rs : Regs} {m : Nat}, Eff.ltB n e = true → n ≤ m → look rs m = none → look (e.app rs) m = none
  | [], _, _, _, _, h => h
  | i :: e, rs, m, hl, hm, h => by
    simp only [Eff.ltB, List.all_cons, Bool.and_eq_true] at hl
    refine look_app_lt (e := e) hl.2 hm ?_
    cases i with
    | set old k g =>
      simp only [EffI.ltB, Bool.and_eq_true, decide_eq_true_eq] at hl
      simp only [EffI.app, look_upd]
      rw [if_neg (by omega), look_without]
      split
      · rfl
      · exact h
    | del r =>
      simp only [EffI.app, look_drop]
      split
      · rfl
      · exact h

/-- Nor is it named in what is open. -/
def NoH (rs : Regs) (m : Nat) : Prop := ∀ r g, look rs r = some g → ∀ p, (p, m) ∉ g.holes
theorem noH_app {n : Nat} : ∀ {e : Eff} {rs : Regs} {m : Nat}, Eff.ltB n e = true → n ≤ m → NoH rs m → NoH (e.app rs) m
  | [], _, _, _, _, h => h
  | i :: e, rs, m, hl, hm, h => by
    simp only [Eff.ltB, List.all_cons, Bool.and_eq_true] at hl
    refine noH_app (e := e) hl.2 hm ?_
    intro r g hg p hp
    cases i with
    | set old k g0 =>
      simp only [EffI.ltB, Bool.and_eq_true, decide_eq_true_eq] at hl
      simp only [EffI.app, look_upd] at hg
      split at hg
      · cases hg
        have := hsLt_spec hl.1.2 hp
        omega
      · rw [look_without] at hg
        split at hg
        · cases hg
        · exact h r g hg p hp
    | del r0 =>
      simp only [EffI.app, look_drop] at hg
      split at hg
      · cases hg
      · exact h r g hg p hp
def FreshFrom (cx : Cx) (st : St) (n : Nat) : Prop := ∀ m, n ≤ m → FreshN cx st m

theorem FreshFrom.put {cx : Cx} {st : St} {n : Nat} (h : FreshFrom cx st n) {dst : Option Tmp} {av : AV} {e : Eff} (ha : av.ltB (n + 16) = true) (he : Eff.ltB (n + 16) e = true) :
    FreshFrom cx (({ st with regs := e.app st.regs } : St).put dst av) (n + 16) := by
  intro m hm
  obtain ⟨⟨h1, h2, h4, h5⟩, h3⟩ := h m (by omega)
  refine ⟨⟨?_, ?_, ?_, ?_⟩, h3⟩
  · rw [St.put_regs]; exact look_app_lt he hm h1
  rotate_left
  · rw [St.put_gh]; exact h4
  · rw [St.put_regs]; exact noH_app he hm h5
  · intro x hx hmen
    cases dst with
    | none => exact h2 x hx hmen
    | some d =>
      simp only [St.put] at hx
      rcases List.mem_or_eq_of_mem_set hx with hx | hx
      · exact h2 x hx hmen
      · subst hx
        have := AV.ltB_spec ha hmen
        omega

/-- What an effect touches. -/
def EffI.touch : EffI → List Nat
  | .set (some o) n _ => [o, n]
  | .set none n _ => [n]
  | .del r => [r]
def touch (e : Eff) : List Nat := e.flatMap EffI.touch
theorem look_effI_not {i : EffI} {rs : Regs} {s : Nat} (h : s ∉ i.touch) : look (i.app rs) s = look rs s := by
  cases i with
  | set old n g =>
    cases old with
    | none =>
      simp only [EffI.touch, List.mem_singleton] at h
      simp only [EffI.app, without, look_upd]
      rw [if_neg (fun e => h e.symm)]
    | some o =>
      simp only [EffI.touch, List.mem_cons, List.not_mem_nil, or_false, not_or] at h
      simp only [EffI.app, look_upd, look_without, Option.some.injEq]
      rw [if_neg (fun e => h.2 e.symm), if_neg (fun e => h.1 e.symm)]
  | del r =>
    simp only [EffI.touch, List.mem_singleton] at h
    simp only [EffI.app, look_drop]
    rw [if_neg (fun e => h e.symm)]
theorem look_app_not : ∀ {e : Eff} {rs : Regs} {s : Nat}, s ∉ touch e → look (e.app rs) s = look rs s
  | [], _, _, _ => rfl
  | i :: e, rs, s, h => by
    simp only [touch, List.flatMap_cons, List.mem_append, not_or] at h
    simp only [Eff.app]
    rw [look_app_not (e := e) h.2, look_effI_not h.1]
def EffI.kids : EffI → List Nat
  | .set _ _ g => g.holes.map (·.2)
  | .del _ => []
def effKids (e : Eff) : List Nat := e.flatMap EffI.kids
theorem look_app_kids : ∀ {e : Eff} {rs : Regs} {r : Nat} {g : Reg}, look (e.app rs) r = some g → look rs r = some g ∨ ∀ p m, (p, m) ∈ g.holes → m ∈ effKids e
  | [], _, _, _, h => .inl h
  | i :: e, rs, r, g, h => by
    simp only [Eff.app] at h
    rcases look_app_kids (e := e) h with h1 | h1
    · cases i with
      | set old n g' =>
        simp only [EffI.app, look_upd, look_without] at h1
        split at h1
        · cases h1
          right
          intro p m hpm
          refine List.mem_flatMap.2 ⟨_, List.mem_cons_self .., ?_⟩
          exact List.mem_map.2 ⟨(p, m), hpm, rfl⟩
        · split at h1
          · cases h1
          · exact .inl h1
      | del k =>
        simp only [EffI.app, look_drop] at h1
        split at h1
        · cases h1
        · exact .inl h1
    · right
      intro p m hpm
      obtain ⟨j, h2, h3⟩ := List.mem_flatMap.1 (h1 p m hpm)
      exact List.mem_flatMap.2 ⟨j, List.mem_cons_of_mem _ h2, h3⟩
theorem RelF.same {cx : Cx} {φ : Phi} {s : St} {rs : Regs} {a : Act} {w : World} (R : RelF cx φ { s with regs := rs } a w) (h : ∀ r, look rs r = look s.regs r) : RelF cx φ s a w ∧ okOf rs φ = okOf s.regs φ := by
  have hok : okOf rs φ = okOf s.regs φ := by
    funext b
    simp only [okOf, h]
  exact ⟨R.fewer (rs' := s.regs) fun t g hg => by show look rs t = some g; rw [h]; exact hg, hok⟩
/-! ### ghost steps: places opened and shut ahead of an operation -/
inductive G where
  | op (r : Nat) (p : List Step) (m : Nat)
  | cl (r m : Nat)
def gEff (rs : Regs) : G → Option (List Prop × Eff)
  | .op r p m => match gopen rs r p m with
    | some (vc, rs') => match look rs' r, look rs' m with
      | some g, some gm => some (vc, [.set (some r) r g, .set none m gm])
      | _, _ => none
    | none => none
  | .cl r m => match gclose rs r m with
    | some rs' => match look rs' r with
      | some g => some ([], [.set (some r) r g, .del m])
      | none => none
    | none => none
theorem gopen_look {rs rs' : Regs} {r m : Nat} {p : List Step} {vc : List Prop} (h : gopen rs r p m = some (vc, rs')) : ∃ g gm, rs' = upd (upd rs r (some g)) m (some gm) := by
  unfold gopen at h
  split at h
  · split at h
    · unfold gopenC at h
      split at h
      · split at h
        · split at h
          · split at h
            · split at h
              · rw [Option.map_eq_some_iff] at h
                obtain ⟨gm, _, e⟩ := h
                cases e
                exact ⟨_, _, rfl⟩
              · cases h
            · cases h
          · cases h
        · cases h
      · cases h
    · unfold gopenM at h
      split at h
      · split at h
        · rw [Option.map_eq_some_iff] at h
          obtain ⟨gm, _, e⟩ := h
          cases e
          exact ⟨_, _, rfl⟩
        · cases h
      · cases h
  · cases h
theorem gEff_sound {cx : Cx} {φ : Phi} {st : St} {a : Act} {w : World} (R : RelF cx φ st a w) {s : G} {vc : List Prop} {e : Eff} (hf : ∀ r p m, s = .op r p m → FreshN cx st m)
    (h : gEff st.regs s = some (vc, e)) (hvc : ∀ P ∈ vc, P) : ∃ φ', RelF cx φ' { st with regs := e.app st.regs } a w := by
  cases s with
  | op r p m =>
    simp only [gEff] at h
    split at h
    · rename_i vc' rs' hg
      split at h
      · rename_i g gm h1 h2
        cases h
        obtain ⟨φ', R'⟩ := gopen_sound R (hf r p m rfl) hg hvc
        obtain ⟨g0, gm0, e⟩ := gopen_look hg
        refine ⟨φ', (RelF.same (s := { st with regs := Eff.app st.regs [.set (some r) r g, .set none m gm] }) (rs := rs') R' fun s => ?_).1⟩
        subst e
        simp only [Eff.app, EffI.app, without, look_upd, look_drop] at h1 h2 ⊢
        by_cases e1 : m = s
        · subst e1; simp only [if_true] at h2 ⊢; rw [h2]
        · rw [if_neg e1, if_neg e1]
          by_cases e2 : r = s
          · subst e2; simp only [if_neg e1, if_true] at h1 ⊢; rw [h1]
          · rw [if_neg e2, if_neg e2, if_neg e2]
      · cases h
    · cases h
  | cl r m =>
    simp only [gEff] at h
    split at h
    · rename_i rs' hg
      split at h
      · rename_i g h1
        cases h
        obtain ⟨φ', R'⟩ := gclose_sound R hg
        obtain ⟨g0, e⟩ := gclose_look hg
        refine ⟨φ', (RelF.same (s := { st with regs := Eff.app st.regs [.set (some r) r g, .del m] }) (rs := rs') R' fun s => ?_).1⟩
        subst e
        simp only [Eff.app, EffI.app, without, look_upd, look_drop] at h1 ⊢
        by_cases e1 : m = s
        · rw [if_pos e1, if_pos e1]
        · rw [if_neg e1, if_neg e1]
          by_cases e2 : r = s
          · subst e2; simp only [if_neg e1, if_true] at h1 ⊢; rw [h1]
          · rw [if_neg e2, if_neg e2, if_neg e2]
      · cases h
    · cases h
/-- Fresh numbers stay so, if they are not made. -/
theorem fresh_eff {cx : Cx} {st : St} {e : Eff} {k : Nat} (h : FreshN cx st k) (h1 : k ∉ touch e) (h2 : k ∉ effKids e) : FreshN cx { st with regs := e.app st.regs } k := by
  refine ⟨⟨?_, h.1.2.1, h.1.2.2.1, fun r g hg p hp => ?_⟩, h.2⟩
  · show look (e.app st.regs) k = none
    rw [look_app_not h1]; exact h.1.1
  · rcases look_app_kids (show look (e.app st.regs) r = some g from hg) with h3 | h3
    · exact h.1.2.2.2 r g h3 p hp
    · exact h2 (h3 p k hp)
theorem effApp_append : ∀ (e e' : Eff) (rs : Regs), Eff.app rs (e ++ e') = Eff.app (Eff.app rs e) e'
  | [], _, _ => rfl
  | i :: e, e', rs => by simp only [List.cons_append, Eff.app]; exact effApp_append e e' _
def oldN (n c k : Nat) : Bool := Nat.blt k n || (Nat.ble (n + 8) k && Nat.blt k c)
/-- The next number after a step, which must make this one if any. -/
def nextG (c : Nat) : G → Option Nat
  | .op _ _ m => if Nat.beq m c = true then some (c + 1) else none
  | .cl _ _ => some c
/-- A chain of ghost steps; n .. n + 7 are not touched, the numbers made are c, c + 1 .. -/
def runG (n hi : Nat) : Nat → List G → Regs → Option (List Prop × Eff)
  | _, [], _ => some ([], [])
  | c, s :: l, rs => match gEff rs s, nextG c s with
    | some (vc, e), some c' => if (touch e).all (oldN n c') && (effKids e).all (oldN n c') && Nat.ble c' hi then (match runG n hi c' l (e.app rs) with
      | some (vc', e') => some (vc ++ vc', e ++ e')
      | none => none) else none
    | _, _ => none
theorem oldN_spec {n c k : Nat} (h : oldN n c k = true) : k < n ∨ (n + 8 ≤ k ∧ k < c) := by
  simp only [oldN, Bool.or_eq_true, Bool.and_eq_true, Nat.blt_eq, Nat.ble_eq] at h
  exact h
theorem runG_sound {cx : Cx} {n hi : Nat} {a : Act} {w : World} {D : Nat → Prop} (hD : ∀ k, D k → (n ≤ k ∧ k < n + 8) ∨ hi ≤ k) : ∀ (l : List G) (c : Nat) {φ : Phi} {st : St} {vc : List Prop} {e : Eff}, RelF cx φ st a w → n + 8 ≤ c → c ≤ hi →
    (∀ k, (c ≤ k ∧ k < hi) ∨ D k → FreshN cx st k) → runG n hi c l st.regs = some (vc, e) → (∀ P ∈ vc, P) →
    (∃ φ', RelF cx φ' { st with regs := e.app st.regs } a w) ∧ (∀ k, D k → FreshN cx { st with regs := e.app st.regs } k)
  | [], c, φ, st, vc, e, R, _, _, hf, h, _ => by
    simp only [runG, Option.some.injEq, Prod.mk.injEq] at h
    obtain ⟨_, rfl⟩ := h
    exact ⟨⟨φ, R⟩, fun k hk => hf k (.inr hk)⟩
  | s :: l, c, φ, st, vc, e, R, hc, hchi, hf, h, hvc => by
    simp only [runG] at h
    split at h
    · rename_i vc1 e1 c' h1 h2
      split at h
      · rename_i hck
        simp only [Bool.and_eq_true, List.all_eq_true, Nat.ble_eq] at hck
        obtain ⟨⟨k1, k2⟩, k3⟩ := hck
        split at h
        · rename_i vc2 e2 h3
          cases h
          have hc' : c ≤ c' ∧ ∀ r p m, s = .op r p m → m = c ∧ c < c' := by
            cases s with
            | op r p m =>
              simp only [nextG] at h2
              split at h2
              · rename_i e; cases h2; exact ⟨by omega, fun _ _ m' e' => by cases e'; exact ⟨Nat.eq_of_beq_eq_true e, by omega⟩⟩
              · cases h2
            | cl r m => cases h2; exact ⟨Nat.le_refl _, fun _ _ _ e => by cases e⟩
          obtain ⟨φ1, R1⟩ := gEff_sound R (fun r p m e => by
            obtain ⟨e1, e2⟩ := hc'.2 r p m e
            exact hf m (.inl ⟨by omega, by omega⟩)) h1 (fun P hP => hvc P (List.mem_append_left _ hP))
          have hf1 : ∀ k, (c' ≤ k ∧ k < hi) ∨ D k → FreshN cx { st with regs := e1.app st.regs } k := by
            intro k hk
            have hkk : (n ≤ k ∧ k < n + 8) ∨ c' ≤ k := by
              rcases hk with hk | hk
              · exact .inr hk.1
              · rcases hD k hk with h9 | h9
                · exact .inl h9
                · exact .inr (by omega)
            refine fresh_eff (hf k (hk.imp (fun h => ⟨by omega, h.2⟩) id)) (fun hm => ?_) (fun hm => ?_)
            · have := oldN_spec (k1 k hm)
              omega
            · have := oldN_spec (k2 k hm)
              omega
          obtain ⟨⟨φ2, R2⟩, hf2⟩ := runG_sound hD l c' (st := { st with regs := e1.app st.regs }) R1 (Nat.le_trans hc hc'.1) k3 hf1 h3 (fun P hP => hvc P (List.mem_append_right _ hP))
          rw [effApp_append]
          exact ⟨⟨φ2, R2⟩, hf2⟩
        · cases h
      · cases h
    · cases h

/-! what is to be opened or shut (whatever it says, it is done soundly) -/
def stepIx : Step → Bool
  | .idx _ => true
  | .key _ => true
  | _ => false
def closeUnder : Nat → Regs → Nat → List G
  | 0, _, _ => []
  | k + 1, rs, r => match look rs r with
    | some g => g.holes.flatMap fun q => match look rs q.2 with
      | some _ => closeUnder k rs q.2 ++ [.cl r q.2]
      | none => []
    | none => []
def openAt (n0 : Nat) (rs : Regs) (g : Reg) (r : Nat) (p : List Step) (m : Nat) : List G :=
  match holeOf g.holes p with
  | none => [.op r p m]
  | some (q, c) => if q.any stepIx && Nat.blt c n0 then (match look rs c with
    | some _ => closeUnder 8 rs c ++ [.cl r c, .op r p m]
    | none => []) else []
def opensAt (n0 : Nat) (rs : Regs) (g : Reg) (r : Nat) (p : List Step) : List (List Step) → Nat → List G
  | [], _ => []
  | q :: qs, m => match openAt n0 rs g r (p ++ q) m with
    | [] => opensAt n0 rs g r p qs m
    | l => l ++ opensAt n0 rs g r p qs (m + 1)
/-- What a place that is to be read wants. -/
def wantLoad (n0 : Nat) (rs : Regs) (r : Nat) (p : List Step) (m : Nat) : List G :=
  match look rs r with
  | some g => match ptyR g p with
    | some u => if u.plain = true then [] else opensAt n0 rs g r p (ownPaths u) m
    | none => []
  | none => []
/-- What a place that is to be written wants. -/
def wantStore (n0 : Nat) (rs : Regs) (r : Nat) (p : List Step) : List G :=
  match look rs r with
  | some g => g.holes.flatMap fun q => if shapePre p q.1 && q.1.any stepIx && Nat.blt q.2 n0 then (match look rs q.2 with
    | some _ => closeUnder 8 rs q.2 ++ [.cl r q.2]
    | none => []) else []
  | none => []
def wantShut (rs : Regs) : Option SV → List G
  | some (.sl r) => closeUnder 8 rs r
  | some (.addr r _) => closeUnder 8 rs r
  | some (.mp r) => closeUnder 8 rs r
  | _ => []
def wantsAll (rs : Regs) (arg : Operand → Option SV) (l : List Operand) : List G := l.flatMap fun x => wantShut rs (arg x)
/-- What a key that is looked up wants. -/
def wantKey (n0 : Nat) (rs : Regs) (r : Nat) (k : Int) (m : Nat) : List G :=
  match look rs r with
  | some (.mp kt v o H) => if v.plain = true then [] else openAt n0 rs (.mp kt v o H) r [.key k] m
  | _ => []
/-- What a map that is written wants. -/
def regOf : Option SV → Option Nat
  | some (.addr r []) => some r
  | some (.mp r) => some r
  | some (.sl r) => some r
  | _ => none
def wantSet (rs : Regs) (r : Nat) (y : Option SV) : List G :=
  match look rs r with
  | some g => g.holes.flatMap fun q => match look rs q.2 with
    | some _ => (match regOf y with
      | some m => if Nat.beq m q.2 = true then [] else closeUnder 8 rs q.2 ++ [.cl r q.2]
      | none => closeUnder 8 rs q.2 ++ [.cl r q.2])
    | none => []
  | none => []
def plan (n0 n : Nat) (rs : Regs) (arg : Operand → Option SV) (o : Op) : List G :=
  match o with
  | .load _ x => match arg x with
    | some (.addr r p) => wantLoad n0 rs r p (n + 8)
    | _ => []
  | .store _ x _ => match arg x with
    | some (.addr r p) => wantStore n0 rs r p
    | _ => []
  | .call { callee := .builtin .append, args := args, argTypes := _ } => wantsAll rs arg (args.toList.take 1)
  | .call { callee := .builtin .copy, args := args, argTypes := _ } => wantsAll rs arg args.toList
  | .slice _ x _ _ _ => wantShut rs (arg x)
  | .lookup _ x i _ => match arg x, arg i with
    | some (.mp r), some (.val (.int _) k) => wantKey n0 rs r k (n + 8)
    | _, _ => []
  | .mapUpdate _ x _ y => match arg x with
    | some (.mp r) => wantSet rs r (arg y)
    | _ => []
  | .insert _ x _ y => match arg x with
    | some (.mp r) => wantSet rs r (arg y)
    | _ => []
  | .call { callee := .builtin .delete, args := args, argTypes := _ } => wantsAll rs arg args.toList
  | _ => []
def offB (l : List (Nat × Bool)) (j : Nat) (want : Bool) : Bool := l.any fun p => Nat.beq p.1 j && (p.2 == want)
/-- A step that is done whatever the guard says. -/
def freeG (rs : Regs) : G → Bool
  | .op r p _ => match look rs r with
    | some (.box _ _ _) => !(p.any stepIx)
    | some (.row _ _ _) => !(p.any stepIx)
    | some (.mp _ _ _ _) => true
    | _ => false
  | .cl _ _ => true
def shutIO (rs : Regs) : List PK → List (Option SV) → List G
  | p :: ps, v :: vs => (if p.io = true then wantShut rs v else []) ++ shutIO rs ps vs
  | _, _ => []
def planC (E : Env) (rs : Regs) (fv : Option AV) (vs : List (Option SV)) : List G :=
  match fv.map asFn with
  | some (.fn fid caps) => match E.sum fid with
    | some S => shutIO rs S.par (vs ++ caps.map some)
    | none => []
  | _ => []
def plan2 (E : Env) (n : Nat) (rs : Regs) (argA : Operand → Option AV) (arg : Operand → Option SV) (o : Op) : List G :=
  match o with
  | .call { callee := .value f, args := args, argTypes := _ } => planC E rs (argA f) (args.toList.map arg)
  | o => plan E.n0 n rs arg o
def planO (E : Env) (n : Nat) (rs : Regs) (tm : List AV) (o : Oper) : List G :=
  match plan2 E n rs (argA tm (tmpsOf o.op.operands.toList)) (argS tm (tmpsOf o.op.operands.toList)) o.op with
  | [] => []
  | l => match o.guard with
    | some (j, want) => if offB E.off j want = true then [] else if (offB E.on j want || l.all (freeG rs)) = true then l else []
    | none => l
/-- An operation, what it wants done first. -/
def withG (n : Nat) (rs : Regs) (l : List G) (run : Regs → Option Out) : Option Out :=
  match l with
  | [] => run rs
  | l => match runG n (n + 16) (n + 8) l rs with
    | some (vc, e) => match run (e.app rs) with
      | some (vc', av, e') => some (vc ++ vc', av, e ++ e')
      | none => none
    | none => none
abbrev Key := List (Tmp × Bool)
/-- The tests under which an operation stands; what they come to. -/
def guardKey (ops : Array Oper) (tm : List AV) (j : Nat) (want : Bool) : Option (Key × Bool × Bool) :=
  match (ops[j]?).bind (·.dst) with
  | some t => match tm[t]? with
    | some (.s (.val .bool b)) => some ([(t, want)], b, want)
    | some (.gd k b w (.val .bool c)) => some (k ++ [(t, want)], (b == w && c == want), true)
    | _ => none
  | none => none
/-- What is made under a test is frozen at once. -/
def frz2 (n : Nat) (rs : Regs) : AV → Eff → Option (List Prop × SV)
  | .s v, [] => some ([], v)
  | .fn f [.addr r p], [] => some ([], .fna f r p)
  | .fn f [.ra t x], [] => some ([], .fnr f t x)
  | .s (.sl m), [.set none m' (.row t xs [])] => if m = m' ∧ n ≤ m ∧ m < n + 8 ∧ t.plain = true then some ([], .val (.ro t) xs) else none
  | .s v, [.set (some r) r' (.box t x [])] => if r = r' then match look rs r with
    | some (.box t0 x0 []) => match castTy t t0 x with
      | some y => some ([y = x0], v)
      | none => none
    | _ => none else none
  | _, _ => none
def guarded (n : Nat) (rs : Regs) (K : Key) (b w : Bool) : Option Out → Option Out
  | some (vc, av, e) => match frz2 n rs av e with
    | some (ex, v) => some ((vc ++ ex).map (fun p => b = w → p), .gd K b w v, [])
    | none => none
  | none => none
def isCallO (o : Oper) : Bool :=
  match o.op with
  | .call _ => true
  | _ => false
def opG0 (on off : List (Nat × Bool)) (n : Nat) (ops : Array Oper) (tm : List AV) (rs : Regs) (o : Oper) (run : Key → Option Out) : Option Out :=
  match o.guard with
  | none => match run [] with
    | some (vc, av, e) => match av with
      | .gd _ _ _ _ => none
      | av => some (vc, av, e)
    | none => none
  | some (j, want) => match guardKey ops tm j want with
    | some (K, b, w) => if offB off j want = true then some ([b = w → False], .gd K b w .undef, []) else if offB on j want = true then (match run K with
      | some (vc, .s v, e) => some ((b = w) :: vc, .s v, e)
      | _ => none) else guarded n (if isCallO o = true then rs else []) K b w (run K)
    | none => none
/-- An operation with its guard. -/
def opG (E : Env) (ops : Array Oper) (tm : List AV) (rs : Regs) (n : Nat) (o : Oper) : Option Out :=
  match withG n rs (planO E n rs tm o) (fun rs => opG0 E.on E.off n ops tm rs o fun _ => opPlain E tm rs n o) with
  | some (vc, av, e) => if av.ltB (n + 16) && Eff.ltB (n + 16) e then some (vc, av, e) else none
  | none => none

/-- What is made, frozen: nothing else has turned. -/
theorem frz_sound {cx : Cx} {st : St} {a : Act} {w : World} {o : Oper} {n : Nat} (hn : ∀ m, n ≤ m → m < n + 8 → look st.regs m = none) {ex : List Prop} {av : AV} {e : Eff} {v : SV} (h : frz2 n st.regs av e = some (ex, v)) (hex : ∀ p ∈ ex, p)
    (hd : Does cx st a w o av e) : Does cx st a w o (.s v) [] := by
  unfold frz2 at h
  split at h
  · cases h
    exact hd
  · cases h
    exact fun next Q hn' => hd next Q fun V w' φ' R' hav => hn' V w' φ' R' (fna_sv hav)
  · cases h
    exact fun next Q hn' => hd next Q fun V w' φ' R' hav => hn' V w' φ' R' (fnr_sv hav)
  · rename_i m m' t xs
    split at h
    · rename_i em
      obtain ⟨em, hm1, hm2, hpl⟩ := em
      subst em
      cases h
      refine fun next Q hn' => hd next Q (fun V w' φ' R' hav => ?_)
      have hfr := hn m hm1 hm2
      have hlook : look (Eff.app st.regs [EffI.set none m (.row t xs [])]) m = some (.row t xs []) := by
        simp [Eff.app, EffI.app, look_upd]
      have hv := (toVal_sound (t := .ro t) (y := xs) (l := [m]) (H := []) R' (V := V) (v := .sl m) (by
        simp only [toVal, hlook, hpl, if_true, castTy_self, Option.map_some]) hav).1.val
      have R2 := R'.dels [m]
      have hsame : ∀ r, look (dels (Eff.app st.regs [EffI.set none m (.row t xs [])]) [m]) r = look st.regs r := by
        intro r
        rw [look_dels]
        by_cases hr : r = m
        · subst hr; rw [if_pos (by simp), hfr]
        · rw [if_neg (by simpa using hr)]
          simp only [Eff.app, EffI.app, look_upd, without]
          rw [if_neg (fun e => hr e.symm)]
      obtain ⟨R3, hok⟩ := RelF.same (s := st) R2 hsame
      refine hn' V w' φ' R3 ?_
      show VRel (okOf (Eff.app st.regs []) φ') w' (.ro t) xs V
      rw [show Eff.app st.regs [] = st.regs from rfl, ← hok]
      exact hv
    · cases h
  · rename_i v0 r r' t x
    split at h
    · rename_i er
      subst er
      split at h
      · rename_i t0 x0 hl
        split at h
        · rename_i y hc
          cases h
          obtain ⟨e1, e2⟩ := castTy_some hc
          subst e1
          subst e2
          have hxy : x = x0 := hex _ (List.mem_cons_self ..)
          subst hxy
          refine fun next Q hn' => hd next Q (fun V w' φ' R' hav => ?_)
          have hsame : ∀ r', look (Eff.app st.regs [EffI.set (some r) r (.box t x [])]) r' = look st.regs r' := by
            intro r'
            simp only [Eff.app, EffI.app, look_upd, look_without]
            by_cases hr : r = r'
            · subst hr; rw [if_pos rfl, hl]
            · rw [if_neg hr, if_neg (by simpa using hr)]
          obtain ⟨R3, hok⟩ := RelF.same (s := st) R' hsame
          refine hn' V w' φ' R3 ?_
          show SVRel (Eff.app st.regs []) φ' (okOf (Eff.app st.regs []) φ') w' v V
          rw [show Eff.app st.regs [] = st.regs from rfl, ← hok]
          exact SVRel.mono (fun b o h1 h2 => ⟨h1, h2⟩) (fun r' _ g' hg => ⟨.rfl' _, g', by rw [hsame]; exact hg, SameKind.refl _⟩) hav
        · cases h
      · cases h
    · cases h
  · cases h

theorem frz2_nil {n : Nat} {rs : Regs} {c : Bool} {av : AV} {e : Eff} {r : List Prop × SV} (h : frz2 n (if c = true then rs else []) av e = some r) : frz2 n rs av e = some r := by
  cases c with
  | true => exact h
  | false =>
    rw [if_neg (by decide)] at h
    unfold frz2 at h ⊢
    split at h
    · exact h
    · exact h
    · exact h
    · exact h
    · simp only [look] at h
      split at h <;> cases h
    · cases h
/-- What an operation of a region comes to. -/
theorem opH_does {E : Env} (hE : EnvOK E) {cx : Cx} (hP : cx.P = E.P) {φ : Phi} {st : St} {a : Act} {w : World} (R : RelF cx φ st a w) {n : Nat} (hf : ∀ k, k < 8 → FreshN cx st (n + k)) {ops : Array Oper} {i : Nat} {o : Oper} (hi : ops[i]? = some o) {vc : List Prop} {av : AV} {e : Eff}
    (hr : opG0 E.on E.off n ops st.tmps st.regs o (fun _ => opPlain E st.tmps st.regs n o) = some (vc, av, e)) (hvc : ∀ p ∈ vc, p) {Q : Exit → Act → World → Prop} {K : Act → World → Prop}
    (hput : ∀ V w' φ', RelF cx φ' { st with regs := e.app st.regs } a w' → AVRel (e.app st.regs) φ' (okOf (e.app st.regs) φ') w' av V → K (a.put o.dst V) w') : wpOp cx.P ops Q i K a w := by
  unfold opG0 at hr
  unfold wpOp
  simp only [hi]
  split at hr
  · rename_i hg
    have hw : Region.wanted o (yielded ops a.tmps) = true := by simp [Region.wanted, hg]
    rw [if_pos hw]
    split at hr
    · rename_i vc1 av1 e1 hp
      have : (vc1, av1, e1) = (vc, av, e) := by
        split at hr
        · cases hr
        · simpa using hr
      cases this
      exact .inl (opPlain_sound hE hP R hf hp hvc K Q hput)
    · cases hr
  · rename_i j want hg
    split at hr
    · rename_i Ky b w2 hb
      have hy : Region.wanted o (yielded ops a.tmps) = true ↔ b = w2 := by
        unfold guardKey at hb
        have hyl : ∀ t, (ops[j]?).bind (·.dst) = some t → ∀ V, a.tmps.getD t undef = V → t < a.tmps.size → yielded ops a.tmps j = match V with
            | .bool b => some b
            | _ => none := by
          intro t ht V hV hlt
          unfold yielded
          rw [ht]
          have : a.tmps[t]? = some V := by
            rw [Array.getElem?_eq_getElem hlt, ← hV]
            simp [hlt]
          simp only [Option.bind_some, this]
          cases V <;> rfl
        cases hd : (ops[j]?).bind (·.dst) with
        | none => rw [hd] at hb; cases hb
        | some t =>
          rw [hd] at hb
          simp only at hb
          split at hb
          · rename_i b' hv
            cases hb
            have hr := R.tm t _ hv
            have hlt : t < a.tmps.size := by rw [R.size, ← R.len]; exact (List.getElem?_eq_some_iff.1 hv).1
            have := hyl t hd _ (VRel.bool_eq hr) hlt
            simp [Region.wanted, hg, this]
          · rename_i k b' w' c hv
            cases hb
            have hr := R.tm t _ hv
            have hlt : t < a.tmps.size := by rw [R.size, ← R.len]; exact (List.getElem?_eq_some_iff.1 hv).1
            by_cases hbw : b' = w'
            · have := hyl t hd _ (VRel.bool_eq (hr.1 hbw)) hlt
              simp [Region.wanted, hg, this, hbw]
            · have := hyl t hd _ (hr.2 hbw) hlt
              simp [Region.wanted, hg, this, undef, hbw]
          · cases hb
      split at hr
      · cases hr
        have hbw : ¬ b = w2 := hvc _ (List.mem_singleton.2 rfl)
        rw [if_neg (fun h => hbw (hy.1 h))]
        exact hput undef w φ R ⟨fun h => (hbw h).elim, fun _ => rfl⟩
      split at hr
      · split at hr
        · rename_i vc1 v1 e1 hp
          cases hr
          have hbw : b = w2 := hvc _ (List.mem_cons_self ..)
          rw [if_pos (hy.2 hbw)]
          exact .inl (opPlain_sound hE hP R hf hp (fun p hp => hvc p (List.mem_cons_of_mem _ hp)) K Q hput)
        · cases hr
      · unfold guarded at hr
        split at hr
        · rename_i r0 vc1 av1 e1 hp
          split at hr
          · rename_i ex v hfz
            cases hr
            by_cases hbw : b = w2
            · rw [if_pos (hy.2 hbw)]
              have hvc0 : ∀ p ∈ vc1 ++ ex, p := fun p hp => hvc (b = w2 → p) (List.mem_map.2 ⟨p, hp, rfl⟩) hbw
              have hd := opPlain_sound hE hP R hf hp (fun p hp => hvc0 p (List.mem_append_left _ hp))
              have hfr : ∀ m, n ≤ m → m < n + 8 → look st.regs m = none := by
                intro m h1 h2
                have := (hf (m - n) (by omega)).1.1
                rwa [show n + (m - n) = m from by omega] at this
              have hd2 := frz_sound hfr (frz2_nil hfz) (fun p hp => hvc0 p (List.mem_append_right _ hp)) hd
              exact .inl (hd2 K Q (fun V w' φ' h1 h2 => hput V w' φ' h1 ⟨fun _ => h2, fun h => (h hbw).elim⟩))
            · rw [if_neg (fun h => hbw (hy.1 h))]
              exact hput undef w φ R ⟨fun h => (hbw h).elim, fun _ => rfl⟩
          · cases hr
        · cases hr
    · cases hr

/-- The same, what it wants done first. -/
theorem opG_does {E : Env} (hE : EnvOK E) {cx : Cx} (hP : cx.P = E.P) {φ : Phi} {st : St} {a : Act} {w : World} (R : RelF cx φ st a w) {n : Nat} (hf : ∀ k, k < 16 → FreshN cx st (n + k)) {ops : Array Oper} {i : Nat} {o : Oper} (hi : ops[i]? = some o) {vc : List Prop} {av : AV} {e : Eff}
    (h : opG E ops st.tmps st.regs n o = some (vc, av, e)) (hvc : ∀ p ∈ vc, p) {Q : Exit → Act → World → Prop} {K : Act → World → Prop}
    (hput : ∀ V w' φ', RelF cx φ' { st with regs := e.app st.regs } a w' → AVRel (e.app st.regs) φ' (okOf (e.app st.regs) φ') w' av V → K (a.put o.dst V) w') : wpOp cx.P ops Q i K a w := by
  unfold opG at h
  split at h
  · rename_i vc' av' e' hr
    split at h
    · cases h
      unfold withG at hr
      split at hr
      · exact opH_does hE hP R (fun k hk => hf k (by omega)) hi hr hvc hput
      · split at hr
        · rename_i vc1 e1 h1
          split at hr
          · rename_i vc2 av2 e2 h2
            cases hr
            obtain ⟨⟨φ1, R1⟩, hf1⟩ := runG_sound (D := fun k => n ≤ k ∧ k < n + 8) (fun k h => .inl h) _ _ R (Nat.le_refl _) (by omega) (fun k hk => by
              have := hf (k - n) (by omega)
              rwa [show n + (k - n) = k from by omega] at this) h1 (fun P hP => hvc P (List.mem_append_left _ hP))
            refine opH_does hE hP (st := { st with regs := e1.app st.regs }) R1 (fun k hk => hf1 (n + k) ⟨by omega, by omega⟩) hi h2 (fun P hP => hvc P (List.mem_append_right _ hP)) (fun V w' φ' R' hav => ?_)
            rw [← effApp_append] at R' hav
            exact hput V w' φ' R' hav
          · cases hr
        · cases hr
    · cases h
  · cases h

/-- The same, the temporary written. -/
theorem opG_sound {E : Env} (hE : EnvOK E) {cx : Cx} (hP : cx.P = E.P) {φ : Phi} {st : St} {a : Act} {w : World} (R : RelF cx φ st a w) {n : Nat} (hf : ∀ k, k < 16 → FreshN cx st (n + k)) {ops : Array Oper} {i : Nat} {o : Oper} (hi : ops[i]? = some o) {vc : List Prop} {av : AV} {e : Eff}
    (h : opG E ops st.tmps st.regs n o = some (vc, av, e)) (hvc : ∀ p ∈ vc, p) {Q : Exit → Act → World → Prop} {K : Act → World → Prop}
    (hK : ∀ a' w' φ', RelF cx φ' (({ st with regs := e.app st.regs } : St).put o.dst av) a' w' → K a' w') : wpOp cx.P ops Q i K a w := by
  exact opG_does hE hP R hf hi h hvc (fun V w' φ' h1 h2 => hK _ _ _ (h1.put h2))

/-! ### a state written out (for the kernel's sake) -/
def forceH {β : Sort _} : Holes → (Holes → β) → β
  | [], k => k []
  | (p, m) :: H, k => forceH H fun H => k ((p, m) :: H)
theorem forceH_eq {β : Sort _} : ∀ (H : Holes) (k : Holes → β), forceH H k = k H
  | [], _ => rfl
  | (p, m) :: H, k => by simp only [forceH, forceH_eq H]
def forceSV {β : Sort _} (v : SV) (k : SV → β) : β :=
  match v with
  | .undef => k .undef
  | .val t x => k (.val t x)
  | .sl r => k (.sl r)
  | .addr r p => k (.addr r p)
  | .ra t x => k (.ra t x)
  | .nilsl => k .nilsl
  | .fn0 f => k (.fn0 f)
  | .fna f r p => k (.fna f r p)
  | .fnr f t x => k (.fnr f t x)
  | .nilp => k .nilp
  | .valn t x => k (.valn t x)
  | .nilq e neg => k (.nilq e neg)
  | .nst t x H => forceH H fun H => k (.nst t x H)
  | .mp r => k (.mp r)
  | .slv r lo hi => k (.slv r lo hi)
def forceSVs {β : Sort _} : List SV → (List SV → β) → β
  | [], k => k []
  | v :: vs, k => forceSV v fun v => forceSVs vs fun vs => k (v :: vs)
def forceAV {β : Sort _} (v : AV) (k : AV → β) : β :=
  match v with
  | .s x => forceSV x fun x => k (.s x)
  | .tup vs => forceSVs vs fun vs => k (.tup vs)
  | .fn f vs => forceSVs vs fun vs => k (.fn f vs)
  | .gd key b w x => forceSV x fun x => k (.gd key b w x)
def forceTm {β : Sort _} : List AV → (List AV → β) → β
  | [], k => k []
  | v :: vs, k => forceAV v fun v => forceTm vs fun vs => k (v :: vs)
def forceReg {β : Sort _} (g : Reg) (k : Reg → β) : β :=
  match g with
  | .row t xs H => forceH H fun H => k (.row t xs H)
  | .box t x H => forceH H fun H => k (.box t x H)
  | .obox t x H => forceH H fun H => k (.obox t x H)
  | .mp kk v es H => forceH H fun H => k (.mp kk v es H)
def forceRegs {β : Sort _} : Regs → (Regs → β) → β
  | [], k => k []
  | (r, g) :: rs, k => forceReg g fun g => forceRegs rs fun rs => k ((r, g) :: rs)
def forceSt {β : Sort _} (st : St) (k : St → β) : β :=
  match st with
  | ⟨tm, rs, n, gh⟩ => forceTm tm fun tm => forceRegs rs fun rs => forceTm gh fun gh => k ⟨tm, rs, n, gh⟩
def stepSt (st : St) (dst : Option Tmp) (av : AV) (e : Eff) : St :=
  match st, dst with
  | ⟨tm, rs, n, gh⟩, some d => ⟨tm.set d av, e.app rs, n, gh⟩
  | ⟨tm, rs, n, gh⟩, none => ⟨tm, e.app rs, n, gh⟩
theorem stepSt_eq (st : St) (dst : Option Tmp) (av : AV) (e : Eff) : stepSt st dst av e = ({ st with regs := e.app st.regs } : St).put dst av := by
  cases dst <;> rfl
def bumpSt (st st' : St) (k : Nat) : St :=
  match st, st' with
  | ⟨_, _, n, _⟩, ⟨tm, rs, _, gh⟩ => ⟨tm, rs, n + k, gh⟩
theorem bumpSt_eq (st st' : St) (k : Nat) : bumpSt st st' k = { st' with next := st.next + k } := rfl
theorem forceSV_eq {β : Sort _} (v : SV) (k : SV → β) : forceSV v k = k v := by cases v <;> first | rfl | exact forceH_eq _ _
theorem forceSVs_eq {β : Sort _} : ∀ (vs : List SV) (k : List SV → β), forceSVs vs k = k vs
  | [], _ => rfl
  | v :: vs, k => by simp only [forceSVs, forceSV_eq, forceSVs_eq vs]
theorem forceAV_eq {β : Sort _} (v : AV) (k : AV → β) : forceAV v k = k v := by cases v <;> simp only [forceAV, forceSV_eq, forceSVs_eq]
theorem forceTm_eq {β : Sort _} : ∀ (vs : List AV) (k : List AV → β), forceTm vs k = k vs
  | [], _ => rfl
  | v :: vs, k => by simp only [forceTm, forceAV_eq, forceTm_eq vs]
theorem forceReg_eq {β : Sort _} (g : Reg) (k : Reg → β) : forceReg g k = k g := by cases g <;> exact forceH_eq _ _
theorem forceRegs_eq {β : Sort _} : ∀ (rs : Regs) (k : Regs → β), forceRegs rs k = k rs
  | [], _ => rfl
  | (r, g) :: rs, k => by simp only [forceRegs, forceReg_eq, forceRegs_eq rs]
theorem forceSt_eq {β : Sort _} (st : St) (k : St → β) : forceSt st k = k st := by simp only [forceSt, forceTm_eq, forceRegs_eq]

/-! ### what is told already: the tests under which an operation stands -/
def holds (tm : List AV) (p : Tmp × Bool) : Prop :=
  match tm[p.1]? with
  | some (.s (.val .bool c)) => c = p.2
  | some (.gd _ b w (.val .bool c)) => b = w ∧ c = p.2
  | _ => False
/-- A guarded value's mark says when it is there. -/
def Inv (tm : List AV) : Prop := ∀ (i : Nat) k b w v, tm[i]? = some (.gd k b w v) → (b = w ↔ ∀ p ∈ k, holds tm p)
def keyAt (tm : List AV) (t : Tmp) : Key :=
  match tm[t]? with
  | some (.gd k _ _ _) => k
  | _ => []
def inK (K k : Key) : Bool := k.all fun p => K.any fun q => q.1 == p.1 && q.2 == p.2
theorem inK_spec {K k : Key} (h : inK K k = true) : ∀ p ∈ k, p ∈ K := by
  intro p hp
  simp only [inK, List.all_eq_true, List.any_eq_true, Bool.and_eq_true, beq_iff_eq] at h
  obtain ⟨q, hq, h1, h2⟩ := h p hp
  obtain ⟨q1, q2⟩ := q
  obtain ⟨p1, p2⟩ := p
  simp only at h1 h2
  subst h1; subst h2
  exact hq
def gdVCp (K : Key) (tm : List AV) (ts : List Tmp) : List Prop := ts.flatMap fun t => if inK K (keyAt tm t) then [] else gdOf tm t
theorem gdVCp_spec {K : Key} {tm : List AV} (hI : Inv tm) (hK : ∀ p ∈ K, holds tm p) {ts : List Tmp} (h : ∀ p ∈ gdVCp K tm ts, p) : ∀ p ∈ gdVC tm ts, p := by
  intro p hp
  obtain ⟨t, ht, hpt⟩ := List.mem_flatMap.1 hp
  by_cases hk : inK K (keyAt tm t) = true
  · unfold gdOf at hpt
    split at hpt
    · rename_i k b w v hv
      simp only [List.mem_singleton] at hpt
      subst hpt
      refine (hI t k b w v hv).2 fun q hq => hK q (inK_spec hk q ?_)
      simpa [keyAt, hv] using hq
    · simp at hpt
  · exact h p (List.mem_flatMap.2 ⟨t, ht, by rw [if_neg hk]; exact hpt⟩)
def rawP (K : Key) (tm : List AV) : Operand → Option (List Prop × SV)
  | .tmp t => match tm[t]? with
    | some (.s v) => some ([], v)
    | some (.gd k b w v) => some (if inK K k then [] else [b = w], v)
    | _ => none
  | .const v => (constAV v).map fun s => ([], s)
  | _ => none
theorem rawP_spec {K : Key} {tm : List AV} (hI : Inv tm) {x : Operand} {vc' : List Prop} {v : SV} (h : rawP K tm x = some (vc', v)) :
    ∃ vc, rawV tm x = some (vc, v) ∧ ((∀ p ∈ K, holds tm p) → (∀ p ∈ vc', p) → ∀ p ∈ vc, p) := by
  unfold rawP at h
  split at h
  · rename_i t
    split at h
    · rename_i hv; cases h; exact ⟨_, by simp only [rawV, hv], fun _ h => h⟩
    · rename_i k b w v hv
      cases h
      refine ⟨[b = w], by simp only [rawV, hv], fun hK h p hp => ?_⟩
      simp only [List.mem_singleton] at hp
      subst hp
      by_cases hk : inK K k = true
      · exact (hI t k b w v hv).2 fun q hq => hK q (inK_spec hk q hq)
      · exact h _ (by rw [if_neg hk]; simp)
    · cases h
  · simp only [Option.map_eq_some_iff] at h
    obtain ⟨s, hs, e⟩ := h
    cases e
    exact ⟨[], by simp only [rawV, hs, Option.map_some], fun _ h => h⟩
  · cases h
def ckey (tm : List AV) (c : Operand) (v : Bool) : Key :=
  match c with
  | .tmp t => keyAt tm t ++ [(t, v)]
  | _ => []
theorem ckey_holds {tm : List AV} (hI : Inv tm) {c : Operand} {vc : List Prop} {b : Bool} (h : rawV tm c = some (vc, .val .bool b)) (hvc : ∀ p ∈ vc, p) : ∀ p ∈ ckey tm c b, holds tm p := by
  intro p hp
  unfold ckey at hp
  split at hp
  · rename_i t
    simp only [rawV] at h
    split at h
    · rename_i v hv
      cases h
      simp only [keyAt, hv, List.nil_append, List.mem_singleton] at hp
      subst hp
      simp [holds, hv]
    · rename_i k b' w v hv
      cases h
      have hbw : b' = w := hvc _ (by simp)
      simp only [keyAt, hv, List.mem_append, List.mem_singleton] at hp
      rcases hp with hp | hp
      · exact (hI t k b' w _ hv).1 hbw p hp
      · subst hp; simp [holds, hv, hbw]
    · cases h
  · simp at hp
def pickP (K : Key) (tm : List AV) (c a b : Operand) : Option Out :=
  match rawP K tm c, rawP (K ++ ckey tm c true) tm a, rawP (K ++ ckey tm c false) tm b with
  | some (vc0, .val .bool c), some (vc1, .val t x), some (vc2, .val u y) => match castTy u t y with
    | some y => some (vc0 ++ vc1.map (fun p => c = true → p) ++ vc2.map (fun p => c = false → p), .s (.val t (if c = true then x else y)), [])
    | none => none
  | some (vc0, .val .bool c), some (_, .undef), some (vc2, .val u y) => some (vc0 ++ [c = true → False] ++ vc2.map (fun p => c = false → p), .s (.val u y), [])
  | some (vc0, .val .bool c), some (vc1, .val t x), some (_, .undef) => some (vc0 ++ vc1.map (fun p => c = true → p) ++ [c = false → False], .s (.val t x), [])
  | _, _, _ => none
theorem pickP_spec {K : Key} {tm : List AV} (hI : Inv tm) {c a b : Operand} {vc' : List Prop} {av : AV} {e : Eff} (h : pickP K tm c a b = some (vc', av, e)) :
    ∃ vc, pickV tm c a b = some (vc, av, e) ∧ ((∀ p ∈ K, holds tm p) → (∀ p ∈ vc', p) → ∀ p ∈ vc, p) := by
  unfold pickP at h
  split at h
  · rename_i vc0 c' vc1 t x vc2 u y h0 h1 h2
    split at h
    · rename_i y' hc
      cases h
      obtain ⟨d0, k0, j0⟩ := rawP_spec hI h0
      obtain ⟨d1, k1, j1⟩ := rawP_spec hI h1
      obtain ⟨d2, k2, j2⟩ := rawP_spec hI h2
      refine ⟨d0 ++ d1.map (fun p => c' = true → p) ++ d2.map (fun p => c' = false → p), by simp only [pickV, k0, k1, k2, hc], fun hK hv p hp => ?_⟩
      have hd0 : ∀ p ∈ d0, p := j0 hK fun p hp => hv p (by simp [hp])
      simp only [List.mem_append, List.mem_map] at hp
      rcases hp with (hp | ⟨q, hq, rfl⟩) | ⟨q, hq, rfl⟩
      · exact hd0 p hp
      · intro hc'
        refine j1 (fun p hp => ?_) (fun p hp => hv (c' = true → p) (by simp only [List.mem_append, List.mem_map]; exact .inl (.inr ⟨p, hp, rfl⟩)) hc') q hq
        rcases List.mem_append.1 hp with hp | hp
        · exact hK p hp
        · exact ckey_holds hI k0 hd0 p (hc' ▸ hp)
      · intro hc'
        refine j2 (fun p hp => ?_) (fun p hp => hv (c' = false → p) (by simp only [List.mem_append, List.mem_map]; exact .inr ⟨p, hp, rfl⟩) hc') q hq
        rcases List.mem_append.1 hp with hp | hp
        · exact hK p hp
        · exact ckey_holds hI k0 hd0 p (hc' ▸ hp)
    · cases h
  · rename_i vc0 c' vc1 vc2 u y h0 h1 h2
    cases h
    obtain ⟨d0, k0, j0⟩ := rawP_spec hI h0
    obtain ⟨d1, k1, j1⟩ := rawP_spec hI h1
    obtain ⟨d2, k2, j2⟩ := rawP_spec hI h2
    refine ⟨d0 ++ [c' = true → False] ++ d2.map (fun p => c' = false → p), by simp only [pickV, k0, k1, k2], fun hK hv p hp => ?_⟩
    have hd0 : ∀ p ∈ d0, p := j0 hK fun p hp => hv p (by simp [hp])
    simp only [List.mem_append, List.mem_map, List.mem_singleton] at hp
    rcases hp with (hp | rfl) | ⟨q, hq, rfl⟩
    · exact hd0 p hp
    · exact hv _ (by simp)
    · intro hc'
      refine j2 (fun p hp => ?_) (fun p hp => hv (c' = false → p) (by simp only [List.mem_append, List.mem_map]; exact .inr ⟨p, hp, rfl⟩) hc') q hq
      rcases List.mem_append.1 hp with hp | hp
      · exact hK p hp
      · exact ckey_holds hI k0 hd0 p (hc' ▸ hp)
  · rename_i vc0 c' vc1 t x vc2 h0 h1 h2
    cases h
    obtain ⟨d0, k0, j0⟩ := rawP_spec hI h0
    obtain ⟨d1, k1, j1⟩ := rawP_spec hI h1
    obtain ⟨d2, k2, j2⟩ := rawP_spec hI h2
    refine ⟨d0 ++ d1.map (fun p => c' = true → p) ++ [c' = false → False], by simp only [pickV, k0, k1, k2], fun hK hv p hp => ?_⟩
    have hd0 : ∀ p ∈ d0, p := j0 hK fun p hp => hv p (by simp [hp])
    simp only [List.mem_append, List.mem_map, List.mem_singleton] at hp
    rcases hp with (hp | ⟨q, hq, rfl⟩) | rfl
    · exact hd0 p hp
    · intro hc'
      refine j1 (fun p hp => ?_) (fun p hp => hv (c' = true → p) (by simp only [List.mem_append, List.mem_map]; exact .inl (.inr ⟨p, hp, rfl⟩)) hc') q hq
      rcases List.mem_append.1 hp with hp | hp
      · exact hK p hp
      · exact ckey_holds hI k0 hd0 p (hc' ▸ hp)
    · exact hv _ (by simp)
  · cases h
def opPlainP (E : Env) (K : Key) (tm : List AV) (rs : Regs) (n : Nat) (o : Oper) : Option Out :=
  match nilTest E.P o.op with
  | some (neg, x) => nilOut rs neg (rawP K tm x)
  | none => match o.op with
  | .pick c a b => pickP K tm c a b
  | .call { callee := .value f, args := args, argTypes := _ } =>
    let ts := tmpsOf (f :: args.toList)
    match argF tm ts f, mapArgs (argS tm ts) args.toList with
    | some (.fn fid caps), some vs => match E.sum fid with
      | some S => if callable E.P fid = true then (callC S rs n (vs ++ caps)).map fun r => (gdVCp K tm ts ++ r.1, r.2) else none
      | none => none
    | _, _ => none
  | _ => let ts := tmpsOf o.op.operands.toList
    (core E.vw (o.guard.isSome || E.nb) E.P rs n (argS tm ts) (argA tm ts) o).map fun r => (gdVCp K tm ts ++ r.1, r.2)
theorem opPlainP_spec {E : Env} {K : Key} {tm : List AV} (hI : Inv tm) {rs : Regs} {n : Nat} {o : Oper} {vc' : List Prop} {av : AV} {e : Eff} (h : opPlainP E K tm rs n o = some (vc', av, e)) :
    ∃ vc, opPlain E tm rs n o = some (vc, av, e) ∧ ((∀ p ∈ K, holds tm p) → (∀ p ∈ vc', p) → ∀ p ∈ vc, p) := by
  have key : ∀ {ts : List Tmp} {r : List Prop}, (∀ p ∈ K, holds tm p) → (∀ p ∈ gdVCp K tm ts ++ r, p) → ∀ p ∈ gdVC tm ts ++ r, p := by
    intro ts r hK hv p hp
    rcases List.mem_append.1 hp with hp | hp
    · exact gdVCp_spec hI hK (fun q hq => hv q (List.mem_append_left _ hq)) p hp
    · exact hv p (List.mem_append_right _ hp)
  unfold opPlainP at h
  unfold opPlain
  split at h
  · rename_i neg x hnt
    unfold nilOut at h
    split at h
    · rename_i vc1 v hr
      rw [Option.map_eq_some_iff] at h
      obtain ⟨r, hc, e1⟩ := h
      cases e1
      obtain ⟨vc, h1, h2⟩ := rawP_spec hI hr
      exact ⟨vc, by simp only [nilOut, h1, hc, Option.map_some], h2⟩
    · cases h
  split at h
  · rename_i c a b ho
    exact pickP_spec hI h
  · rename_i f args ty ho
    simp only at h ⊢
    split at h
    · rename_i fid caps vs h1 h2
      split at h
      · rename_i S hS
        split at h
        · rename_i hc
          rw [Option.map_eq_some_iff] at h
          obtain ⟨⟨r1, r2⟩, hr, e1⟩ := h
          cases e1
          exact ⟨_, by first | rw [hr]; rfl | simp only [hc, if_true, hr, Option.map_some], key⟩
        · cases h
      · cases h
    · cases h
  · rename_i hn1 hn2
    simp only at h
    rw [Option.map_eq_some_iff] at h
    obtain ⟨⟨r1, r2⟩, hr, e1⟩ := h
    cases e1
    exact ⟨gdVC tm (tmpsOf o.op.operands.toList) ++ r1, by simp only [hr, Option.map_some], key⟩
def nk (d : Tmp) : AV → Bool
  | .gd k _ _ _ => k.all fun p => p.1 != d
  | _ => true
/-- The same, without what is told already. -/
def opGP (E : Env) (ops : Array Oper) (tm : List AV) (rs : Regs) (n : Nat) (o : Oper) : Option Out :=
  match withG n rs (planO E n rs tm o) (fun rs => opG0 E.on E.off n ops tm rs o fun K => opPlainP E K tm rs n o) with
  | some (vc, av, e) => if av.ltB (n + 16) && Eff.ltB (n + 16) e && (match o.dst with
      | some d => nk d av && tm.all (nk d)
      | none => true) then some (vc, av, e) else none
  | none => none
theorem guardKey_holds {ops : Array Oper} {tm : List AV} (hI : Inv tm) {j : Nat} {want : Bool} {K : Key} {b w : Bool} (h : guardKey ops tm j want = some (K, b, w)) : b = w ↔ ∀ p ∈ K, holds tm p := by
  unfold guardKey at h
  split at h
  · rename_i t ht
    split at h
    · rename_i b' hv
      cases h
      simp [holds, hv]
    · rename_i k b' w' c hv
      cases h
      have := hI t k b' w' _ hv
      simp only [Bool.and_eq_true, beq_iff_eq, List.mem_append, List.mem_singleton]
      constructor
      · rintro ⟨h1, h2⟩ p (hp | rfl)
        · exact this.1 h1 p hp
        · simp [holds, hv, h1, h2]
      · intro h
        have h2 := h (t, want) (.inr rfl)
        simp only [holds, hv] at h2
        exact h2
    · cases h
  · cases h
theorem opG0_spec {on off : List (Nat × Bool)} {n : Nat} {ops : Array Oper} {tm : List AV} {rs : Regs} (hI : Inv tm) {o : Oper} {f : Key → Option Out} {g : Option Out} {vc' : List Prop} {av : AV} {e : Eff}
    (hfg : ∀ K vc' av e, f K = some (vc', av, e) → ∃ vc, g = some (vc, av, e) ∧ ((∀ p ∈ K, holds tm p) → (∀ p ∈ vc', p) → ∀ p ∈ vc, p)) (h : opG0 on off n ops tm rs o f = some (vc', av, e)) :
    (∃ vc, opG0 on off n ops tm rs o (fun _ => g) = some (vc, av, e) ∧ ((∀ p ∈ vc', p) → ∀ p ∈ vc, p)) ∧ (∀ k b w v, av = .gd k b w v → (b = w ↔ ∀ p ∈ k, holds tm p)) := by
  unfold opG0 at h ⊢
  split at h
  · rename_i hg
    split at h
    · rename_i vc1 av1 e1 hf
      have hav : (vc1, av1, e1) = (vc', av, e) ∧ ∀ k b w v, av1 ≠ .gd k b w v := by
        split at h
        · cases h
        · rename_i hne
          exact ⟨by simpa using h, fun k b w v he => hne k b w v he⟩
      obtain ⟨e9, hne⟩ := hav
      cases e9
      obtain ⟨vc, h1, h2⟩ := hfg [] _ _ _ hf
      simp only [h1]
      exact ⟨⟨vc, rfl, h2 (by simp)⟩, fun k b w v he => (hne k b w v he).elim⟩
    · cases h
  · rename_i j want hg
    split at h
    · rename_i K b w hk
      simp only
      split at h
      · rename_i hoff
        cases h
        rw [if_pos hoff]
        exact ⟨⟨_, rfl, fun hv => hv⟩, fun k b' w' v' he => by cases he; exact guardKey_holds hI hk⟩
      rename_i hoff
      rw [if_neg hoff]
      split at h
      · rename_i hon
        rw [if_pos hon]
        split at h
        · rename_i vc2 v2 e2 hr
          cases h
          obtain ⟨vc, h1, h2⟩ := hfg K _ _ _ hr
          have hh := guardKey_holds hI hk
          simp only [h1]
          refine ⟨⟨_, rfl, fun hv p hp => ?_⟩, fun k b' w' v' he => by cases he⟩
          have hbw : b = w := hv _ (List.mem_cons_self ..)
          rcases List.mem_cons.1 hp with hp | hp
          · subst hp; exact hbw
          · exact h2 (hh.1 hbw) (fun q hq => hv q (List.mem_cons_of_mem _ hq)) p hp
        · cases h
      · rename_i hon
        rw [if_neg hon]
        unfold guarded at h
        split at h
        · rename_i r0 vc2 av2 e2 hr
          split at h
          · rename_i ex v hfz
            cases h
            obtain ⟨vc, h1, h2⟩ := hfg K _ _ _ hr
            have hh := guardKey_holds hI hk
            simp only [h1, guarded, hfz]
            refine ⟨⟨_, rfl, fun hv p hp => ?_⟩, fun k b' w' v' he => ?_⟩
            · obtain ⟨q, hq, rfl⟩ := List.mem_map.1 hp
              intro hbw
              have hv' : ∀ q ∈ vc2 ++ ex, q := fun q hq => hv (b = w → q) (List.mem_map.2 ⟨q, hq, rfl⟩) hbw
              rcases List.mem_append.1 hq with hq | hq
              · exact h2 (hh.1 hbw) (fun q hq => hv' q (List.mem_append_left _ hq)) q hq
              · exact hv' q (List.mem_append_right _ hq)
            · cases he
              exact hh
          · cases h
        · cases h
    · cases h
theorem holds_set {tm : List AV} {d : Tmp} {av : AV} {p : Tmp × Bool} (h : p.1 ≠ d) : holds (tm.set d av) p ↔ holds tm p := by
  unfold holds
  rw [List.getElem?_set_ne (fun e => h e.symm)]
theorem opHP_spec {E : Env} {ops : Array Oper} {tm : List AV} (hI : Inv tm) {rs : Regs} {n : Nat} {o : Oper} {l : List G} {vc' : List Prop} {av : AV} {e : Eff} (h : withG n rs l (fun rs => opG0 E.on E.off n ops tm rs o fun K => opPlainP E K tm rs n o) = some (vc', av, e)) :
    (∃ vc, withG n rs l (fun rs => opG0 E.on E.off n ops tm rs o fun _ => opPlain E tm rs n o) = some (vc, av, e) ∧ ((∀ p ∈ vc', p) → ∀ p ∈ vc, p)) ∧ (∀ k b w v, av = .gd k b w v → (b = w ↔ ∀ p ∈ k, holds tm p)) := by
  unfold withG at h ⊢
  split at h
  · exact opG0_spec (g := opPlain E tm rs n o) hI (fun K vc' av e hf => opPlainP_spec hI hf) h
  · split at h
    · rename_i vc1 e1 h1
      split at h
      · rename_i vc2 av2 e2 h2
        cases h
        obtain ⟨⟨vc3, h3, h4⟩, h5⟩ := opG0_spec (g := opPlain E tm (e1.app rs) n o) hI (fun K vc' av e hf => opPlainP_spec hI hf) h2
        simp only [h3]
        exact ⟨⟨_, rfl, fun hv p hp => (List.mem_append.1 hp).elim (fun hp => hv p (List.mem_append_left _ hp)) fun hp => h4 (fun q hq => hv q (List.mem_append_right _ hq)) p hp⟩, h5⟩
      · cases h
    · cases h
theorem opGP_spec {E : Env} {ops : Array Oper} {tm : List AV} (hI : Inv tm) {rs : Regs} {n : Nat} {o : Oper} {vc' : List Prop} {av : AV} {e : Eff} (h : opGP E ops tm rs n o = some (vc', av, e)) :
    (∃ vc, opG E ops tm rs n o = some (vc, av, e) ∧ ((∀ p ∈ vc', p) → ∀ p ∈ vc, p)) ∧ ∀ d, o.dst = some d → Inv (tm.set d av) := by
  unfold opGP at h
  split at h
  · rename_i vc1 av1 e1 h0
    rw [Option.ite_none_right_eq_some] at h
    · obtain ⟨hc, h⟩ := h
      cases h
      simp only [Bool.and_eq_true] at hc
      obtain ⟨⟨c1, c2⟩, c3⟩ := hc
      obtain ⟨⟨vc, h1, h2⟩, h3⟩ := opHP_spec hI h0
      refine ⟨⟨vc, by simp only [opG, h1, c1, c2, Bool.and_self, if_true], h2⟩, fun d hd => ?_⟩
      rw [hd] at c3
      simp only [Bool.and_eq_true, List.all_eq_true] at c3
      obtain ⟨c3, c4⟩ := c3
      have free : ∀ {k b w v}, nk d (.gd k b w v) = true → ((∀ p ∈ k, holds (tm.set d av) p) ↔ ∀ p ∈ k, holds tm p) := by
        intro k b w v hk
        simp only [nk, List.all_eq_true, bne_iff_ne, ne_eq] at hk
        exact ⟨fun h p hp => (holds_set (hk p hp)).1 (h p hp), fun h p hp => (holds_set (hk p hp)).2 (h p hp)⟩
      intro i k b w v hi
      rw [List.getElem?_set] at hi
      split at hi
      · split at hi
        · simp only [Option.some.injEq] at hi
          subst hi
          rw [free c3]
          exact h3 k b w v rfl
        · cases hi
      · rw [free (c4 _ (List.mem_of_getElem? hi))]
        exact hI i k b w v hi
  · cases h
/-- Guarded values are a region's own: ahead of one they are forgotten. -/
def cleanAV : AV → AV
  | .gd _ _ _ _ => .s .undef
  | v => v
def cleanSt (st : St) : St := { st with tmps := st.tmps.map cleanAV }
theorem cleanSt_inv (st : St) : Inv (cleanSt st).tmps := by
  intro i k b w v h
  simp only [cleanSt, List.getElem?_map, Option.map_eq_some_iff] at h
  obtain ⟨x, _, e⟩ := h
  cases x <;> cases e
theorem RelF.clean {cx : Cx} {φ : Phi} {st : St} {a : Act} {w : World} (R : RelF cx φ st a w) : RelF cx φ (cleanSt st) a w := by
  refine ⟨R.size, by simp [cleanSt, R.len], R.df, ?_, R.gh, R.lay, R.kp, R.hB, R.bs⟩
  intro i av hi
  simp only [cleanSt, List.getElem?_map, Option.map_eq_some_iff] at hi
  obtain ⟨x, hx, e⟩ := hi
  have := R.tm i x hx
  cases x <;> cases e <;> first | exact this | trivial
theorem FreshFrom.clean {cx : Cx} {st : St} {n : Nat} (h : FreshFrom cx st n) : FreshFrom cx (cleanSt st) n := by
  intro m hm
  obtain ⟨⟨h1, h2, h4, h5⟩, h3⟩ := h m hm
  refine ⟨⟨h1, fun av hav hmen => ?_, h4, h5⟩, h3⟩
  simp only [cleanSt, List.mem_map] at hav
  obtain ⟨x, hx, rfl⟩ := hav
  refine h2 x hx ?_
  cases x <;> first | exact hmen | exact hmen.elim

/-! ### a region in the text's order -/
def runSeq (E : Env) (ops : Array Oper) : List Oper → Nat → St → Option (List Prop × St)
  | [], _, st => some ([], st)
  | o :: os, n, st => match opGP E ops st.tmps st.regs n o with
    | some (vc, av, e) => forceSt (stepSt st o.dst av e) fun st => match runSeq E ops os (n + 16) st with
      | some (vc', st') => some (vc ++ vc', st')
      | none => none
    | none => none

theorem opG_lt {E : Env} {ops : Array Oper} {tm : List AV} {rs : Regs} {n : Nat} {o : Oper} {vc : List Prop} {av : AV} {e : Eff} (ho : opG E ops tm rs n o = some (vc, av, e)) : av.ltB (n + 16) = true ∧ Eff.ltB (n + 16) e = true := by
  unfold opG at ho
  split at ho
  · split at ho
    · rename_i hc
      cases ho
      simpa using hc
    · cases ho
  · cases ho
theorem runSeq_sound {E : Env} (hE : EnvOK E) {cx : Cx} (hP : cx.P = E.P) {ops : Array Oper} {Q : Exit → Act → World → Prop} : ∀ (os : List Oper) (k n : Nat) (st st' : St) (φ : Phi) (a : Act) (w : World) (vc : List Prop),
    (∀ i, os[i]? = ops[k + i]?) → k + os.length = ops.size → Inv st.tmps → RelF cx φ st a w → FreshFrom cx st n → runSeq E ops os n st = some (vc, st') → (∀ p ∈ vc, p) →
    (∀ a' w' φ', RelF cx φ' st' a' w' → FreshFrom cx st' (n + 16 * os.length) → Q .normal a' w') → wpOps cx.P ops Q (List.range' k os.length) a w
  | [], k, n, st, st', φ, a, w, vc, _, _, _, R, hF, h, _, hQ => by
    simp only [runSeq, Option.some.injEq, Prod.mk.injEq] at h
    obtain ⟨_, rfl⟩ := h
    exact hQ a w φ R (by simpa using hF)
  | o :: os, k, n, st, st', φ, a, w, vc, hos, hlen, hI, R, hF, h, hvc, hQ => by
    simp only [runSeq, forceSt_eq, stepSt_eq] at h
    split at h
    · rename_i vc1 av e ho'
      obtain ⟨⟨vc0, ho, hv0⟩, hI2⟩ := opGP_spec hI ho'
      split at h
      · rename_i vc2 st2 hr
        cases h
        have hk : ops[k]? = some o := by have := hos 0; simpa using this.symm
        simp only [List.length_cons, List.range'_succ]
        rw [wpOps_cons]
        have hlt := opG_lt ho
        have hI3 : Inv (({ st with regs := e.app st.regs } : St).put o.dst av).tmps := by
          cases hd : o.dst with
          | none => exact hI
          | some d => exact hI2 d hd
        refine opG_sound hE hP R (fun j _ => hF (n + j) (by omega)) hk ho (hv0 fun p hp => hvc p (by simp [hp])) (fun a' w' φ' R' => ?_)
        refine runSeq_sound hE hP os (k + 1) (n + 16) _ _ φ' a' w' vc2 (fun i => ?_) (by simp at hlen; omega) hI3 R' (hF.put hlt.1 hlt.2) hr (fun p hp => hvc p (by simp [hp])) (fun a2 w2 φ2 R2 hF2 => hQ a2 w2 φ2 R2 ?_)
        · have := hos (i + 1)
          simp only [List.getElem?_cons_succ] at this
          rw [this]; congr 1; omega
        · rw [List.length_cons]
          have : n + 16 * (os.length + 1) = n + 16 + 16 * os.length := by omega
          rw [this]; exact hF2
      · cases h
    · cases h

end Go.Lift
/- A state made plain: what is not kept is forgotten, the regions are numbered anew. -/
namespace Go.Lift
open Go

def rn (m : List (Nat × Nat)) (r : Nat) : Option Nat :=
  match m with
  | [] => none
  | (o, n) :: m => if o = r then some n else rn m r
def renH (m : List (Nat × Nat)) : Holes → Option Holes
  | [] => some []
  | (p, r) :: H => match rn m r with
    | some n => match renH m H with
      | some H' => some ((p, n) :: H')
      | none => none
    | none => none
def SV.ren (m : List (Nat × Nat)) : SV → SV
  | .sl r => match rn m r with
    | some n => .sl n
    | none => .undef
  | .addr r p => match rn m r with
    | some n => .addr n p
    | none => .undef
  | .mp r => match rn m r with
    | some n => .mp n
    | none => .undef
  | .fna f r p => match rn m r with
    | some n => .fna f n p
    | none => .undef
  | .slv r lo hi => match rn m r with
    | some n => .slv n lo hi
    | none => .undef
  | .nst t x H => match renH m H with
    | some H' => .nst t x H'
    | none => .undef
  | .valn t x => .val (.ro t) x
  | .nilq _ _ => .undef
  | v => v
def AV.ren (m : List (Nat × Nat)) : AV → AV
  | .s v => .s (v.ren m)
  | .tup vs => .tup (vs.map (SV.ren m))
  | .fn f vs => .fn f (vs.map (SV.ren m))
  | .gd _ _ _ _ => .s .undef
def SV.ids : SV → List Nat
  | .sl r => [r]
  | .addr r _ => [r]
  | .mp r => [r]
  | .slv r _ _ => [r]
  | .fna _ r _ => [r]
  | .nst _ _ H => H.map (·.2)
  | _ => []
def AV.ids : AV → List Nat
  | .s v => v.ids
  | .tup vs => vs.flatMap SV.ids
  | .fn _ vs => vs.flatMap SV.ids
  | .gd _ _ _ _ => []
/-- The numbers given anew: those of the parameters stay. -/
def mkRen (nio : Nat) (ids : List Nat) : List (Nat × Nat) :=
  ids.foldl (fun m r => if (rn m r).isSome then m else m ++ [(r, m.length)]) ((List.range nio).map fun r => (r, r))
def renRegs (m0 : List (Nat × Nat)) (m : List (Nat × Nat)) (rs : Regs) : Regs :=
  match m with
  | [] => []
  | (o, n) :: m => match look rs o with
    | some g => match renH m0 g.holes with
      | some H => (n, g.withH H) :: renRegs m0 m rs
      | none => renRegs m0 m rs
    | none => renRegs m0 m rs
def renTmps (keep : List Tmp) (m : List (Nat × Nat)) : Nat → List AV → List AV
  | _, [] => []
  | i, v :: vs => (if keep.contains i = true then v.ren m else .s .undef) :: renTmps keep m (i + 1) vs
def keepIds (keep : List Tmp) (tm : List AV) : List Nat := keep.flatMap fun t => match tm[t]? with
  | some v => v.ids
  | none => []
def renOK (nio : Nat) (m : List (Nat × Nat)) : Bool :=
  nodupB (m.map (·.1)) && nodupB (m.map (·.2)) && (List.range nio).all (fun r => decide (rn m r = some r)) && m.all (fun p => decide (p.2 < nio + m.length))
/-- Holes whose regions are not kept. -/
def stale (keep : List Nat) : Regs → List (Nat × Nat)
  | [] => []
  | (r, g) :: rs => ((g.holes.filter fun q => !keep.contains q.2).map fun q => (r, q.2)) ++ stale keep rs
def closeSome (rs : Regs) : List (Nat × Nat) → Option Regs
  | [] => none
  | (r, m) :: l => match gclose rs r m with
    | some rs' => some rs'
    | none => closeSome rs l
/-- What is kept, and all that lies behind it. -/
def grow : Nat → Regs → List Nat → List Nat
  | 0, _, ids => ids
  | n + 1, rs, ids =>
    match (ids.flatMap fun r => match look rs r with
      | some g => g.holes.map (·.2)
      | none => []).filter fun k => !ids.contains k with
    | [] => ids
    | ks => grow n rs (ids ++ ks)
def closeAll : Nat → List Nat → Regs → Regs
  | 0, _, rs => rs
  | n + 1, keep, rs => match stale keep rs with
    | [] => rs
    | l => match closeSome rs (l.filter (fun q => (grow 16 rs keep).contains q.1) ++ l.filter (fun q => !(grow 16 rs keep).contains q.1)) with
      | some rs' => closeAll n keep rs'
      | none => rs
def norm (nio : Nat) (keep : List Tmp) (st : St) : Option St :=
  let ks := List.range nio ++ keepIds keep st.tmps ++ st.gh.flatMap AV.ids
  let rs := closeAll 64 ks st.regs
  let m := mkRen nio (grow 16 rs ks)
  if renOK nio m = true then some { tmps := renTmps keep m 0 st.tmps, regs := renRegs m m rs, next := nio + m.length, gh := st.gh.map (AV.ren m) } else none

theorem closeSome_sound {cx : Cx} {φ : Phi} {st : St} {a : Act} {w : World} (R : RelF cx φ st a w) : ∀ (l : List (Nat × Nat)) {rs' : Regs}, closeSome st.regs l = some rs' → ∃ φ', RelF cx φ' { st with regs := rs' } a w
  | [], _, h => by simp [closeSome] at h
  | (r, m) :: l, rs', h => by
    simp only [closeSome] at h
    split at h
    · rename_i rs2 hg; cases h; exact gclose_sound R hg
    · exact closeSome_sound R l h
theorem closeAll_sound {cx : Cx} {a : Act} {w : World} : ∀ (n : Nat) (keep : List Nat) {φ : Phi} {st : St}, RelF cx φ st a w → ∃ φ', RelF cx φ' { st with regs := closeAll n keep st.regs } a w
  | 0, _, φ, st, R => ⟨φ, R⟩
  | n + 1, keep, φ, st, R => by
    simp only [closeAll]
    split
    · exact ⟨φ, R⟩
    · split
      · rename_i rs' h
        obtain ⟨φ', R'⟩ := closeSome_sound R _ h
        exact closeAll_sound n keep R'
      · exact ⟨φ, R⟩
theorem renH_spec {m : List (Nat × Nat)} : ∀ {H H' : Holes}, renH m H = some H' → hsub H' = hsub H ∧ ∀ p n, (p, n) ∈ H' → ∃ o, (p, o) ∈ H ∧ rn m o = some n
  | [], _, h => by cases h; exact ⟨rfl, fun p n h => by cases h⟩
  | (p, r) :: H, H', h => by
    simp only [renH] at h
    split at h
    · rename_i n hn
      split at h
      · rename_i H2 h2
        cases h
        obtain ⟨h3, h4⟩ := renH_spec h2
        refine ⟨?_, ?_⟩
        · funext q
          have h5 : (!(H2.any fun x => decide (x.1 = q))) = (!(H.any fun x => decide (x.1 = q))) := congrArg Ref.hd (congrFun h3 q)
          have h6 : (H2.any fun x => decide (x.1 = q)) = (H.any fun x => decide (x.1 = q)) := by
            cases h7 : (H2.any fun x => decide (x.1 = q)) <;> cases h8 : (H.any fun x => decide (x.1 = q)) <;> simp [h7, h8] at h5 ⊢
          simp [hsub, h6]
        · intro q k hq
          rcases List.mem_cons.1 hq with hq | hq
          · cases hq; exact ⟨r, List.mem_cons_self .., hn⟩
          · obtain ⟨o, h5, h6⟩ := h4 q k hq; exact ⟨o, List.mem_cons_of_mem _ h5, h6⟩
      · cases h
    · cases h
theorem addrRel_withH {φ φ' : Phi} {r n : Nat} {p : List Step} {v : Value} {g : Reg} {H : Holes} (h : addrRel φ r p v g) (e : φ' n = φ r) : addrRel φ' n p v (g.withH H) := by
  cases g <;> simp only [addrRel, Reg.withH, e] at h ⊢ <;> exact h
theorem hdr_withH (g : Reg) (H : Holes) (l : Sub) : hdr l (g.withH H) = hdr l g := by cases g <;> rfl

theorem rn_mem {m : List (Nat × Nat)} {r n : Nat} (h : rn m r = some n) : (r, n) ∈ m := by
  induction m with
  | nil => simp [rn] at h
  | cons p m ih =>
    obtain ⟨o, k⟩ := p
    simp only [rn] at h
    split at h
    · rename_i e; cases h; subst e; exact List.mem_cons_self ..
    · exact List.mem_cons_of_mem _ (ih h)
theorem look_ren {m0 m : List (Nat × Nat)} {rs : Regs} {n : Nat} {g : Reg} (h : look (renRegs m0 m rs) n = some g) : ∃ o g0 H, (o, n) ∈ m ∧ look rs o = some g0 ∧ renH m0 g0.holes = some H ∧ g = g0.withH H := by
  induction m with
  | nil => simp [renRegs, look] at h
  | cons p m ih =>
    obtain ⟨o, k⟩ := p
    have pass : look (renRegs m0 m rs) n = some g → ∃ o' g0 H, (o', n) ∈ (o, k) :: m ∧ look rs o' = some g0 ∧ renH m0 g0.holes = some H ∧ g = g0.withH H := fun h => by
      obtain ⟨o', g0, H, h1, h2⟩ := ih h; exact ⟨o', g0, H, List.mem_cons_of_mem _ h1, h2⟩
    simp only [renRegs] at h
    split at h
    · rename_i g' hl
      split at h
      · rename_i H hH
        simp only [look] at h
        split at h
        · rename_i e; subst e; cases h; exact ⟨o, g', H, List.mem_cons_self .., hl, hH, rfl⟩
        · exact pass h
      · exact pass h
    · exact pass h
theorem snd_inj {m : List (Nat × Nat)} (h : (m.map (·.2)).Nodup) {a b n : Nat} (ha : (a, n) ∈ m) (hb : (b, n) ∈ m) : a = b := by
  induction m with
  | nil => cases ha
  | cons p m ih =>
    simp only [List.map_cons, List.nodup_cons] at h
    rcases List.mem_cons.1 ha with ha | ha <;> rcases List.mem_cons.1 hb with hb | hb
    · rw [← ha] at hb; cases hb; rfl
    · exact (h.1 (List.mem_map.2 ⟨_, hb, by rw [← ha]⟩)).elim
    · exact (h.1 (List.mem_map.2 ⟨_, ha, by rw [← hb]⟩)).elim
    · exact ih h.2 ha hb
/-- Where a new number's region lies. -/
def backLoc (m : List (Nat × Nat)) (φ : Phi) (n : Nat) : Sub :=
  match m with
  | [] => φ n
  | (o, k) :: m => if k = n then φ o else backLoc m φ n
theorem backLoc_mem {m : List (Nat × Nat)} (h : (m.map (·.2)).Nodup) {φ : Phi} {o n : Nat} (hm : (o, n) ∈ m) : backLoc m φ n = φ o := by
  induction m with
  | nil => cases hm
  | cons p m ih =>
    obtain ⟨o', k⟩ := p
    simp only [backLoc]
    simp only [List.map_cons, List.nodup_cons] at h
    rcases List.mem_cons.1 hm with hm | hm
    · cases hm; rw [if_pos rfl]
    · have : k ≠ n := fun e => h.1 (List.mem_map.2 ⟨_, hm, e.symm⟩)
      rw [if_neg this]
      exact ih h.2 hm

theorem renTmps_get (keep : List Tmp) (m : List (Nat × Nat)) : ∀ (vs : List AV) (k i : Nat) (v : AV), (renTmps keep m k vs)[i]? = some v → ∃ u, vs[i]? = some u ∧ (v = u.ren m ∨ v = .s .undef)
  | [], _, _, _, h => by simp [renTmps] at h
  | u :: vs, k, i, v, h => by
    cases i with
    | zero =>
      simp only [renTmps, List.getElem?_cons_zero, Option.some.injEq] at h
      refine ⟨u, rfl, ?_⟩
      split at h
      · exact .inl h.symm
      · exact .inr h.symm
    | succ i =>
      simp only [renTmps, List.getElem?_cons_succ] at h
      exact renTmps_get keep m vs (k + 1) i v h
theorem renTmps_length (keep : List Tmp) (m : List (Nat × Nat)) : ∀ (vs : List AV) (k : Nat), (renTmps keep m k vs).length = vs.length
  | [], _ => rfl
  | u :: vs, k => by simp [renTmps, renTmps_length keep m vs]

theorem norm1_sound {cx : Cx} {φ : Phi} {st : St} {a : Act} {w : World} (R : RelF cx φ st a w) {nio : Nat} (hio : ∀ r l, (r, l) ∈ cx.io → r < nio) {keep : List Tmp} {m : List (Nat × Nat)} (hok : renOK nio m = true) :
    (∃ φ', RelF cx φ' { tmps := renTmps keep m 0 st.tmps, regs := renRegs m m st.regs, next := nio + m.length, gh := st.gh.map (AV.ren m) } a w) ∧
      FreshFrom cx { tmps := renTmps keep m 0 st.tmps, regs := renRegs m m st.regs, next := nio + m.length, gh := st.gh.map (AV.ren m) } (nio + m.length) := by
  have L := R.lay
  simp only [renOK, Bool.and_eq_true, List.all_eq_true, decide_eq_true_eq, List.mem_range] at hok
  obtain ⟨⟨⟨h1, h2⟩, h3⟩, h4⟩ := hok
  have n1 := nodupB_spec h1
  have n2 := nodupB_spec h2
  let φ' : Phi := ⟨backLoc m φ, φ.base⟩
  have hback : ∀ n g, look (renRegs m m st.regs) n = some g → ∃ o g0 H, (o, n) ∈ m ∧ look st.regs o = some g0 ∧ renH m g0.holes = some H ∧ g = g0.withH H ∧ φ' n = φ o := by
    intro n g hl
    obtain ⟨o, g0, H, h5, h6, h7, h8⟩ := look_ren hl
    exact ⟨o, g0, H, h5, h6, h7, h8, backLoc_mem n2 h5⟩
  have hm : ∀ b o, okOf st.regs φ b → w.heap[b]? = some o → okOf (renRegs m m st.regs) φ' b ∧ w.heap[b]? = some o := by
    intro b o hok hh
    refine ⟨⟨fun n g hl hb => ?_, hok.2⟩, hh⟩
    obtain ⟨o', g0, H, h5, h6, _, _, h7⟩ := hback n g hl
    rw [h7] at hb
    exact hok.1 o' g0 h6 hb
  have hSV : ∀ x v, SVRel st.regs φ (okOf st.regs φ) w x v → SVRel (renRegs m m st.regs) φ' (okOf (renRegs m m st.regs) φ') w (x.ren m) v := by
    intro x v hx
    cases x with
    | undef => exact hx
    | val t x => exact VRel.mono hm hx
    | nilsl => exact hx
    | fn0 f => exact hx
    | nilp => exact hx
    | valn t x => exact VRel.mono hm hx.1
    | nilq e neg => trivial
    | ra t x =>
      obtain ⟨b, o, cs, ty, fz, e1, e2, e3, e4⟩ := hx
      exact ⟨b, o, cs, ty, fz, e1, (hm _ _ e2 e3).1, e3, Ty.rd_mono hm _ _ _ e4⟩
    | sl r =>
      simp only [SV.ren]
      split
      · rename_i n hn
        intro t xs H0 hl
        obtain ⟨o, g0, H, h5, h6, _, h8, h7⟩ := hback n _ hl
        have : o = r := snd_inj n2 h5 (rn_mem hn)
        subst this
        rw [h7]
        cases g0 <;> first | (cases h8; done) | skip
        cases h8
        exact hx _ _ _ h6
      · trivial
    | mp r =>
      simp only [SV.ren]
      split
      · rename_i n hn
        intro k vt es H0 hl
        obtain ⟨o, g0, H, h5, h6, _, h8, h7⟩ := hback n _ hl
        have : o = r := snd_inj n2 h5 (rn_mem hn)
        subst this
        rw [h7]
        cases g0 <;> first | (cases h8; done) | skip
        cases h8
        exact hx _ _ _ _ h6
      · trivial
    | slv r lo hi =>
      simp only [SV.ren]
      split
      · rename_i n hn
        intro t xs H0 hl
        obtain ⟨o, g0, H, h5, h6, _, h8, h7⟩ := hback n _ hl
        have : o = r := snd_inj n2 h5 (rn_mem hn)
        subst this
        rw [h7]
        cases g0 <;> first | (cases h8; done) | skip
        cases h8
        exact hx _ _ _ h6
      · trivial
    | nst t x H =>
      simp only [SV.ren]
      split
      · rename_i H' hH
        obtain ⟨k1, k2⟩ := renH_spec hH
        obtain ⟨e1, e2, e3, e0, e4⟩ := hx
        refine ⟨by rw [k1]; exact Ty.rd_mono' hm _ _ _ _ (fun p b hb => by cases hb) e1, e2, e3, e0, fun p n hpn => ?_⟩
        obtain ⟨o, k3, k4⟩ := k2 p n hpn
        refine ⟨(e4 p o k3).1, fun g hg => ?_⟩
        obtain ⟨o', g0, H0, h5, h6, _, h8, h7⟩ := hback n _ hg
        have : o' = o := snd_inj n2 h5 (rn_mem k4)
        subst this
        rw [h7, h8, hdr_withH]
        exact (e4 p o' k3).2 g0 h6
      · trivial
    | addr r p =>
      simp only [SV.ren]
      split
      · rename_i n hn
        intro g hl
        obtain ⟨o, g0, H, h5, h6, _, h8, h7⟩ := hback n _ hl
        have : o = r := snd_inj n2 h5 (rn_mem hn)
        subst this
        rw [h8]
        exact addrRel_withH (hx g0 h6) h7
      · trivial
    | fna f r p =>
      simp only [SV.ren]
      split
      · rename_i n hn
        obtain ⟨pv, e, hx⟩ := hx
        refine ⟨pv, e, fun g hl => ?_⟩
        obtain ⟨o, g0, H, h5, h6, _, h8, h7⟩ := hback n _ hl
        have : o = r := snd_inj n2 h5 (rn_mem hn)
        subst this
        rw [h8]
        exact addrRel_withH (hx g0 h6) h7
      · trivial
    | fnr f t x =>
      obtain ⟨b, o, cs, ty, fz, e1, e2, e3, e4⟩ := hx
      exact ⟨b, o, cs, ty, fz, e1, (hm _ _ e2 e3).1, e3, Ty.rd_mono hm _ _ _ e4⟩
  have hAll : ∀ (xs : List SV) (vs : List Value), All2 (SVRel st.regs φ (okOf st.regs φ) w) xs vs → All2 (SVRel (renRegs m m st.regs) φ' (okOf (renRegs m m st.regs) φ') w) (xs.map (SV.ren m)) vs := by
    intro xs vs h
    induction h with
    | nil => exact .nil
    | cons h _ ih => exact .cons (hSV _ _ h) ih
  have hAV : ∀ u v, AVRel st.regs φ (okOf st.regs φ) w u v → AVRel (renRegs m m st.regs) φ' (okOf (renRegs m m st.regs) φ') w (u.ren m) v := by
    intro u v hr
    cases u with
    | s x => exact hSV _ _ hr
    | tup xs => obtain ⟨vs, e, ha⟩ := hr; exact ⟨vs, e, hAll _ _ ha⟩
    | fn f xs => obtain ⟨vs, e, ha⟩ := hr; exact ⟨vs, e, hAll _ _ ha⟩
    | gd k b w' x => trivial
  have hgh : ∀ (us : List AV) (vs : List Value), All2 (AVRel st.regs φ (okOf st.regs φ) w) us vs → All2 (AVRel (renRegs m m st.regs) φ' (okOf (renRegs m m st.regs) φ') w) (us.map (AV.ren m)) vs := by
    intro us vs h
    induction h with
    | nil => exact .nil
    | cons h _ ih => exact .cons (hAV _ _ h) ih
  have one : ∀ o n n', (o, n) ∈ m → (o, n') ∈ m → n = n' := by
    intro o n n'
    have aux : ∀ (l : List (Nat × Nat)), (l.map (·.1)).Nodup → (o, n) ∈ l → (o, n') ∈ l → n = n' := by
      intro l
      induction l with
      | nil => intro _ h; cases h
      | cons p l ih =>
        intro hnd ha hb
        simp only [List.map_cons, List.nodup_cons] at hnd
        rcases List.mem_cons.1 ha with ha | ha <;> rcases List.mem_cons.1 hb with hb | hb
        · rw [← ha] at hb; cases hb; rfl
        · exact (hnd.1 (List.mem_map.2 ⟨_, hb, by rw [← ha]⟩)).elim
        · exact (hnd.1 (List.mem_map.2 ⟨_, ha, by rw [← hb]⟩)).elim
        · exact ih hnd.2 ha hb
    exact aux m n1
  have hnum : ∀ r n, rn m r = some n → n < nio + m.length := fun r n h => h4 _ (rn_mem h)
  have hsv : ∀ k, nio + m.length ≤ k → ∀ x : SV, (x.ren m).mentions k → False := by
    intro k hk x hx
    cases x with
    | sl r | mp r | addr r p | slv r lo hi | fna f r p =>
      simp only [SV.ren] at hx
      split at hx
      · rename_i n hn
        have := hnum _ _ hn
        simp only [SV.mentions] at hx
        omega
      · exact hx
    | nst t x H =>
      simp only [SV.ren] at hx
      split at hx
      · rename_i H' hH
        obtain ⟨p, hp⟩ := hx
        obtain ⟨o, _, k4⟩ := (renH_spec hH).2 p k hp
        have := hnum _ _ k4
        omega
      · exact hx
    | _ => exact hx
  have hav : ∀ k, nio + m.length ≤ k → ∀ u : AV, (u.ren m).mentions k → False := by
    intro k hk u hmen
    cases u with
    | s x => exact hsv k hk x hmen
    | tup xs =>
      obtain ⟨v, hv, hm⟩ := hmen
      obtain ⟨x, _, rfl⟩ := List.mem_map.1 hv
      exact hsv k hk x hm
    | fn f xs =>
      obtain ⟨v, hv, hm⟩ := hmen
      obtain ⟨x, _, rfl⟩ := List.mem_map.1 hv
      exact hsv k hk x hm
    | gd k b w' x => exact hmen
  refine ⟨⟨φ', ⟨R.size, by rw [renTmps_length]; exact R.len, R.df, ?_, hgh _ _ R.gh, ⟨?_, ?_, ?_, ?_, ?_, ?_, ?_, ?_, ?_⟩, R.kp, R.hB, R.bs⟩⟩, ?_⟩
  · intro i v hv
    obtain ⟨u, hu, hcase⟩ := renTmps_get keep m st.tmps 0 i v hv
    rcases hcase with rfl | rfl
    · exact hAV _ _ (R.tm i u hu)
    · trivial
  · intro n g hl
    obtain ⟨o, g0, H, h5, h6, _, h8, h7⟩ := hback n g hl
    rw [h7, h8]
    exact ((withH_spec g0 H).2.2.2.2.2.2.2.1 _ _ _ _).2 (Reg.at_mono hm (fun _ _ => rfl) (fun _ _ _ _ => rfl) (L.rg o g0 h6))
  · intro n g hl
    obtain ⟨o, g0, H, h5, h6, _, h8, h7⟩ := hback n g hl
    rw [h7]; exact L.inj o g0 h6
  · intro n n' g g' b hl hl' hb hb'
    obtain ⟨o, g0, H, h5, h6, _, _, h7⟩ := hback n g hl
    obtain ⟨o', g0', H', k5, k6, _, _, k7⟩ := hback n' g' hl'
    rw [h7] at hb
    rw [k7] at hb'
    have := L.sep o o' g0 g0' b h6 k6 hb hb'
    subst this
    exact one o n n' h5 k5
  · intro n g b hl hb
    obtain ⟨o, g0, H, h5, h6, _, _, h7⟩ := hback n g hl
    rw [h7] at hb
    exact L.al o g0 b h6 hb
  · intro n g b hl hb
    obtain ⟨o, g0, H, h5, h6, _, _, h7⟩ := hback n g hl
    rw [h7] at hb
    exact L.fr o g0 b h6 hb
  · intro r l hr hs
    obtain ⟨g, hl⟩ := Option.isSome_iff_exists.1 hs
    obtain ⟨o, g0, H, h5, h6, _, _, h7⟩ := hback r g hl
    have hrr := rn_mem (h3 r (hio r l hr))
    have : o = r := snd_inj n2 h5 hrr
    subst this
    rw [h7]
    exact L.io o l hr (by simp [h6])
  · intro n g hl p k hpk hp gm hgm
    obtain ⟨o, g0, H, h5, h6, hH, h8, h7⟩ := hback n g hl
    obtain ⟨ok, gk, Hk, k5, k6, _, k8, k7⟩ := hback k gm hgm
    obtain ⟨w1, w2, w3, w4, w5, w6, w7, w8, w9⟩ := withH_spec g0 H
    subst h8
    rw [w1] at hpk
    obtain ⟨o2, j1, j2⟩ := (renH_spec hH).2 p k hpk
    have : ok = o2 := snd_inj n2 k5 (rn_mem j2)
    subst this
    rw [h7, k7, k8, hdr_withH, w9]
    exact L.hl o g0 h6 p ok j1 ((w5 p).1 hp) gk k6
  · intro n g hl q hq
    obtain ⟨o, g0, H, h5, h6, hH, h8, h7⟩ := hback n g hl
    obtain ⟨w1, w2, w3, w4, w5, w6, w7, w8, w9⟩ := withH_spec g0 H
    rw [h7] at hq
    obtain ⟨p, k, k1, k2, k3⟩ := L.told o g0 h6 q hq
    subst h8
    rw [w1, w2]
    have : ∃ k', (p, k') ∈ H := by
      have h9 : (hsub g0.holes p).hd = false := by
        simp only [hsub, Bool.not_eq_false', List.any_eq_true, decide_eq_true_eq]
        exact ⟨(p, k), k1, rfl⟩
      rw [← (renH_spec hH).1] at h9
      exact hsub_hd h9
    obtain ⟨k', hk'⟩ := this
    exact ⟨p, k', hk', k2, (w5 p).2 k3⟩
  · intro n g hl p k hpk
    obtain ⟨o, g0, H, h5, h6, hH, h8, h7⟩ := hback n g hl
    obtain ⟨w1, w2, w3, w4, w5, w6, w7, w8, w9⟩ := withH_spec g0 H
    subst h8
    rw [w1] at hpk
    obtain ⟨o2, j1, j2⟩ := (renH_spec hH).2 p k hpk
    obtain ⟨a1, a2, a3⟩ := L.ht o g0 h6 p o2 j1
    refine ⟨fun e => ?_, fun hc => (w5 p).2 (a2 (w3 ▸ hc)), by rw [w6]; exact a3⟩
    subst e
    exact a1 (snd_inj n2 (rn_mem j2) h5)
  · intro k hk
    refine ⟨⟨?_, ?_, ?_, ?_⟩, fun l hl => ?_⟩
    · cases hl : look (renRegs m m st.regs) k with
      | none => rfl
      | some g =>
        obtain ⟨o, _, _, h5, _⟩ := look_ren hl
        have := h4 _ h5
        simp only at this
        omega
    · intro av hav' hmen
      obtain ⟨i, hi, e⟩ := List.getElem_of_mem hav'
      obtain ⟨u, hu, hcase⟩ := renTmps_get keep m st.tmps 0 i av (by rw [List.getElem?_eq_getElem hi, e])
      rcases hcase with rfl | rfl
      · exact hav k hk u hmen
      · exact hmen
    · intro av hav' hmen
      obtain ⟨u, _, rfl⟩ := List.mem_map.1 hav'
      exact hav k hk u hmen
    · intro r g hl p hp
      obtain ⟨o, g0, H, h5, h6, hH, h8⟩ := look_ren hl
      subst h8
      rw [(withH_spec g0 H).1] at hp
      obtain ⟨o2, _, j2⟩ := (renH_spec hH).2 p k hp
      have := hnum _ _ j2
      omega
    · have := hio k l hl
      omega
theorem norm_sound {cx : Cx} {φ : Phi} {st st' : St} {a : Act} {w : World} (R : RelF cx φ st a w) {nio : Nat} (hio : ∀ r l, (r, l) ∈ cx.io → r < nio) {keep : List Tmp} (h : norm nio keep st = some st') :
    (∃ φ', RelF cx φ' st' a w) ∧ FreshFrom cx st' st'.next := by
  simp only [norm] at h
  split at h
  · rename_i hok
    cases h
    obtain ⟨φ1, R1⟩ := closeAll_sound 64 (List.range nio ++ keepIds keep st.tmps ++ st.gh.flatMap AV.ids) R
    exact norm1_sound R1 hio hok
  · cases h

theorem set_same (tmps : Array Value) (t : Nat) (hlt : t < tmps.size) : tmps.setIfInBounds t (tmps.getD t undef) = tmps := by
  apply Array.ext_getElem?
  intro i
  by_cases h : t = i
  · subst h
    simp [hlt]
  · rw [Array.getElem?_setIfInBounds_ne h]

/-! ### a nil slice that is to be grown -/
def ownNil : List (Tmp × Ty) → St → St
  | [], st => st
  | (t, τ) :: l, st => match st.tmps[t]? with
    | some (.s .nilsl) => ownNil l { st with tmps := st.tmps.set t (.s (.sl st.next)), regs := upd st.regs st.next (some (.row τ [] [])), next := st.next + 1 }
    | _ => ownNil l st
theorem ownNil_sound {cx : Cx} {a : Act} {w : World} : ∀ (l : List (Tmp × Ty)) {φ : Phi} {st : St}, RelF cx φ st a w → FreshFrom cx st st.next → (∃ φ', RelF cx φ' (ownNil l st) a w) ∧ FreshFrom cx (ownNil l st) (ownNil l st).next
  | [], φ, st, R, hF => ⟨⟨φ, R⟩, hF⟩
  | (t, τ) :: l, φ, st, R, hF => by
    simp only [ownNil]
    split
    · rename_i ht
      have hv := R.tm t _ ht
      have hV : a.tmps.getD t undef = .slice none 0 0 := hv
      have hf := hF st.next (Nat.le_refl _)
      have R1 := R.step1 (w' := w) none st.next (.row τ [] []) none 0 0 (fun b hb => by cases hb) (fun b _ _ => rfl) (.inl hf.1) (fun l0 hl => (hf.2 l0 hl).elim) rfl
        ⟨Nat.le_refl _, rfl⟩ rfl rfl rfl (Nat.le_refl _)
      have R2 := R1.put (dst := some t) (av := .s (.sl st.next)) (v := a.tmps.getD t undef) (by
        intro t' xs' H' hl
        simp only [without, look_upd, if_true] at hl
        cases hl
        rw [hV]
        simp [Sub.addr])
      have ha : a.put (some t) (a.tmps.getD t undef) = a := by
        have hlt : t < a.tmps.size := by rw [R.size, ← R.len]; exact (List.getElem?_eq_some_iff.1 ht).1
        cases a with
        | mk tmps defers =>
          simp only [Act.put]
          congr 1
          exact set_same tmps t hlt
      rw [ha] at R2
      refine ownNil_sound l (φ := setLoc φ st.next (mkSub none 0 0)) ⟨R2.size, R2.len, R2.df, R2.tm, R2.gh, R2.lay, R2.kp, R2.hB, R2.bs⟩ ?_
      intro m hm
      have hm' : st.next + 1 ≤ m := hm
      obtain ⟨⟨h1, h2, h3, h4⟩, h5⟩ := hF m (by omega)
      refine ⟨⟨?_, ?_, h3, ?_⟩, h5⟩
      · show look (upd st.regs st.next (some (.row τ [] []))) m = none
        rw [look_upd, if_neg (by omega)]; exact h1
      · intro x hx hmen
        have hx' : x ∈ st.tmps.set t (.s (.sl st.next)) := hx
        rcases List.mem_or_eq_of_mem_set hx' with hx' | hx'
        · exact h2 x hx' hmen
        · subst hx'
          have : st.next = m := hmen
          omega
      · intro r g hg p hp
        have hg' : look (upd st.regs st.next (some (.row τ [] []))) r = some g := hg
        rw [look_upd] at hg'
        split at hg'
        · cases hg'; cases hp
        · exact h4 r g hg' p hp
    · exact ownNil_sound l R hF

end Go.Lift
/- One operation seen with its own regions alone: what stands beside is kept. -/
namespace Go.Lift
open Go

def SV.allIds : SV → List Nat
  | .sl r => [r]
  | .addr r _ => [r]
  | .mp r => [r]
  | .slv r _ _ => [r]
  | .fna _ r _ => [r]
  | .nst _ _ H => H.map (·.2)
  | _ => []
def AV.allIds : AV → List Nat
  | .s v => v.allIds
  | .tup vs => vs.flatMap SV.allIds
  | .fn _ vs => vs.flatMap SV.allIds
  | .gd _ _ _ v => v.allIds
theorem SV.allIds_spec {v : SV} {n : Nat} (h : v.mentions n) : n ∈ v.allIds := by
  cases v with
  | nst t x H => obtain ⟨p, hp⟩ := h; exact List.mem_map.2 ⟨(p, n), hp, rfl⟩
  | _ => simp_all [SV.mentions, SV.allIds]
theorem AV.allIds_spec {v : AV} {n : Nat} (h : v.mentions n) : n ∈ v.allIds := by
  cases v with
  | s v => exact SV.allIds_spec h
  | tup vs => obtain ⟨v, h1, h2⟩ := h; exact List.mem_flatMap.2 ⟨v, h1, SV.allIds_spec h2⟩
  | fn f vs => obtain ⟨v, h1, h2⟩ := h; exact List.mem_flatMap.2 ⟨v, h1, SV.allIds_spec h2⟩
  | gd k b w v => exact SV.allIds_spec h

def restr (ids : List Nat) (rs : Regs) : Regs := ids.filterMap fun r => (look rs r).map fun g => (r, g)
theorem look_restr (ids : List Nat) (rs : Regs) (s : Nat) : look (restr ids rs) s = if s ∈ ids then look rs s else none := by
  induction ids with
  | nil => simp [restr, look]
  | cons r ids ih =>
    have e : restr (r :: ids) rs = match look rs r with
      | some g => (r, g) :: restr ids rs
      | none => restr ids rs := by
      unfold restr
      simp only [List.filterMap_cons]
      cases look rs r <;> rfl
    rw [e]
    cases hl : look rs r with
    | none =>
      simp only [ih, List.mem_cons]
      by_cases h : s = r
      · subst h; simp [hl]
      · simp [h]
    | some g =>
      simp only [look, ih, List.mem_cons]
      by_cases h : r = s
      · subst h; simp [hl]
      · simp [h, Ne.symm h]

theorem look_effI_congr {i : EffI} {rs rs' : Regs} {s : Nat} (h : look rs s = look rs' s) : look (i.app rs) s = look (i.app rs') s := by
  cases i with
  | set old n g => simp only [EffI.app, look_upd, look_without, h]
  | del r => simp only [EffI.app, look_drop, h]
theorem look_app_congr : ∀ {e : Eff} {rs rs' : Regs} {s : Nat}, look rs s = look rs' s → look (e.app rs) s = look (e.app rs') s
  | [], _, _, _, h => h
  | i :: e, rs, rs', s, h => by
    simp only [Eff.app]
    exact look_app_congr (e := e) (look_effI_congr h)

/-- What points to a region. -/
def tok (r : Nat) : Reg → AV
  | .row _ _ _ => .s (.sl r)
  | .box _ _ _ => .s (.addr r [])
  | .obox _ _ _ => .s (.addr r [])
  | .mp _ _ _ _ => .s (.mp r)
def toks (φ : Phi) (rs : Regs) (ids : List Nat) : List (AV × Value) := ids.filterMap fun r => (look rs r).map fun g => (tok r g, hdr (φ r) g)
theorem mem_toks {φ : Phi} {rs : Regs} {ids : List Nat} {x : AV × Value} : x ∈ toks φ rs ids ↔ ∃ r g, r ∈ ids ∧ look rs r = some g ∧ x = (tok r g, hdr (φ r) g) := by
  simp only [toks, List.mem_filterMap, Option.map_eq_some_iff]
  constructor
  · rintro ⟨r, h1, g, h2, h3⟩; exact ⟨r, g, h1, h2, h3.symm⟩
  · rintro ⟨r, g, h1, h2, h3⟩; exact ⟨r, h1, g, h2, h3.symm⟩
def kindB : Reg → Reg → Bool
  | .row _ _ _, .row _ _ _ => true
  | .box _ _ _, .box _ _ _ => true
  | .box _ _ _, .obox _ _ _ => true
  | .obox _ _ _, .box _ _ _ => true
  | .obox _ _ _, .obox _ _ _ => true
  | .mp _ _ _ _, .mp _ _ _ _ => true
  | _, _ => false
theorem tok_rel {rs : Regs} {φ : Phi} {ok : Nat → Prop} {w : World} {r : Nat} {g : Reg} (h : look rs r = some g) (hat : g.at ok w (φ r)) : AVRel rs φ ok w (tok r g) (hdr (φ r) g) := by
  cases g with
  | row t xs H => intro t' xs' H' hl; rw [h] at hl; cases hl; rfl
  | mp k v o H => intro k' v' o' H' hl; rw [h] at hl; cases hl; rfl
  | box t x H =>
    intro g' hl
    rw [h] at hl; cases hl
    obtain ⟨_, b, cs, ty, fz, e1, _⟩ := hat
    have e1' : (φ r).blk = some b := e1
    exact ⟨b, e1', by simp [pok], by simp [hdr, e1', poff]⟩
  | obox t o H =>
    intro g' hl
    rw [h] at hl; cases hl
    refine .inl ⟨rfl, ?_, rfl⟩
    cases o with
    | none => have e : (φ r).blk = none := hat; simp [e]
    | some x =>
      obtain ⟨_, b, cs, ty, fz, e1, _⟩ := hat
      have e1' : (φ r).blk = some b := e1
      simp [e1']
theorem addr_hdr {φ : Phi} {r : Nat} {g : Reg} {v : Value} (h : addrRel φ r [] v g) (hk : ∀ t xs H, g ≠ .row t xs H) : v = hdr (φ r) g := by
  cases g with
  | row t xs H => exact (hk _ _ _ rfl).elim
  | box t x H =>
    obtain ⟨b, e1, _, e3⟩ := h
    simp [hdr, e1, e3, poff]
  | obox t o H =>
    rcases h with ⟨_, _, e3⟩ | ⟨b, _, e1, _, e3⟩
    · exact e3
    · simp [hdr, e1, e3, poff]
  | mp k v o H => exact h.elim
theorem tok_hdr {rs : Regs} {φ : Phi} {ok : Nat → Prop} {w : World} {r : Nat} {g g' : Reg} {v : Value} (h : AVRel rs φ ok w (tok r g) v) (hl : look rs r = some g') (hk : kindB g g' = true) : v = hdr (φ r) g' := by
  cases g <;> cases g' <;> first | (cases hk; done) | skip
  · exact h _ _ _ hl
  · exact addr_hdr (h _ hl) (by simp)
  · exact addr_hdr (h _ hl) (by simp)
  · exact addr_hdr (h _ hl) (by simp)
  · exact addr_hdr (h _ hl) (by simp)
  · exact h _ _ _ _ hl

def cxIn (cx : Cx) (φ : Phi) (st : St) (ids : List Nat) (w : World) : Cx :=
  { P := cx.P, B := w.heap.size, w0 := w, io := ids.filterMap fun r => (look st.regs r).map fun _ => (r, φ r), ro := okOf st.regs φ, nt := cx.nt, gh := cx.gh ++ (toks φ st.regs ids).map (·.2) }
def stIn (φ : Phi) (st : St) (ids : List Nat) : St := { st with regs := restr ids st.regs, gh := st.gh ++ (toks φ st.regs ids).map (·.1) }
theorem cxIn_io {cx : Cx} {φ : Phi} {st : St} {ids : List Nat} {w : World} {r : Nat} {l : Sub} : (r, l) ∈ (cxIn cx φ st ids w).io ↔ r ∈ ids ∧ (∃ g, look st.regs r = some g) ∧ l = φ r := by
  simp only [cxIn, List.mem_filterMap, Option.map_eq_some_iff, Prod.mk.injEq]
  constructor
  · rintro ⟨r', h1, g, h2, rfl, rfl⟩; exact ⟨h1, ⟨g, h2⟩, rfl⟩
  · rintro ⟨h1, ⟨g, h2⟩, rfl⟩; exact ⟨r, h1, g, h2, rfl, rfl⟩
theorem cxIn_own {cx : Cx} {φ : Phi} {st : St} {ids : List Nat} {w : World} {b : Nat} : (cxIn cx φ st ids w).own b ↔ ∃ r g, r ∈ ids ∧ look st.regs r = some g ∧ (φ r).has b := by
  unfold Cx.own
  constructor
  · rintro ⟨r, l, h1, h2⟩
    obtain ⟨h3, ⟨g, h4⟩, rfl⟩ := cxIn_io.1 h1
    exact ⟨r, g, h3, h4, h2⟩
  · rintro ⟨r, g, h1, h2, h3⟩
    exact ⟨r, φ r, cxIn_io.2 ⟨h1, ⟨g, h2⟩, rfl⟩, h3⟩
theorem All2.append {α β : Type} {R : α → β → Prop} {as as' : List α} {bs bs' : List β} (h : All2 R as bs) (k : All2 R as' bs') : All2 R (as ++ as') (bs ++ bs') := by
  induction h with
  | nil => exact k
  | cons h _ ih => exact .cons h ih
theorem All2.split {α β : Type} {R : α → β → Prop} : ∀ {as as' : List α} {bs bs' : List β}, as.length = bs.length → All2 R (as ++ as') (bs ++ bs') → All2 R as bs ∧ All2 R as' bs'
  | [], _, [], _, _, h => ⟨.nil, h⟩
  | [], _, _ :: _, _, h, _ => by simp at h
  | _ :: _, _, [], _, h, _ => by simp at h
  | a :: as, as', b :: bs, bs', hl, h => by
    cases h with
    | cons h1 h2 =>
      obtain ⟨h3, h4⟩ := All2.split (as := as) (bs := bs) (by simpa using hl) h2
      exact ⟨.cons h1 h3, h4⟩
theorem All2.ofMap {α β : Type} {R : α → β → Prop} : ∀ {l : List (α × β)}, (∀ x ∈ l, R x.1 x.2) → All2 R (l.map (·.1)) (l.map (·.2))
  | [], _ => .nil
  | x :: l, h => .cons (h x (List.mem_cons_self ..)) (All2.ofMap fun y hy => h y (List.mem_cons_of_mem _ hy))
theorem All2.toMap {α β : Type} {R : α → β → Prop} : ∀ {l : List (α × β)}, All2 R (l.map (·.1)) (l.map (·.2)) → ∀ x ∈ l, R x.1 x.2
  | [], _, x, hx => by cases hx
  | y :: l, h, x, hx => by
    cases h with
    | cons h1 h2 =>
      rcases List.mem_cons.1 hx with e | hx
      · rw [e]; exact h1
      · exact All2.toMap (l := l) h2 x hx

theorem look_restr_some {ids : List Nat} {rs : Regs} {s : Nat} {g : Reg} (h : look (restr ids rs) s = some g) : s ∈ ids ∧ look rs s = some g := by
  rw [look_restr] at h
  split at h
  · rename_i hm; exact ⟨hm, h⟩
  · cases h
theorem RelF.into {cx : Cx} {φ : Phi} {st : St} {a : Act} {w : World} (R : RelF cx φ st a w) (ids : List Nat) :
    RelF (cxIn cx φ st ids w) ⟨φ.loc, fun b => w.heap.size ≤ b ∨ (cxIn cx φ st ids w).own b ∨ okOf st.regs φ b⟩ (stIn φ st ids) a w := by
  have L := R.lay
  have hlk : ∀ s g, look (restr ids st.regs) s = some g → s ∈ ids ∧ look st.regs s = some g := fun s g h => look_restr_some h
  have hm : ∀ b o, okOf st.regs φ b → w.heap[b]? = some o → okOf (restr ids st.regs) ⟨φ.loc, fun b => w.heap.size ≤ b ∨ (cxIn cx φ st ids w).own b ∨ okOf st.regs φ b⟩ b ∧ w.heap[b]? = some o :=
    fun b o h1 h2 => ⟨⟨fun r g hr => h1.1 r g (hlk r g hr).2, .inr (.inr h1)⟩, h2⟩
  have hav : ∀ av v, AVRel st.regs φ (okOf st.regs φ) w av v → AVRel (restr ids st.regs) ⟨φ.loc, fun b => w.heap.size ≤ b ∨ (cxIn cx φ st ids w).own b ∨ okOf st.regs φ b⟩ (okOf (restr ids st.regs) ⟨φ.loc, fun b => w.heap.size ≤ b ∨ (cxIn cx φ st ids w).own b ∨ okOf st.regs φ b⟩) w av v :=
    fun av v h => AVRel.mono hm (fun r _ g' hg => ⟨.rfl' _, g', (hlk r g' hg).2, SameKind.refl _⟩) h
  refine ⟨R.size, R.len, R.df, fun i av h => hav _ _ (R.tm i av h), ?_, ⟨?_, ?_, ?_, ?_, ?_, ?_, ?_, ?_, ?_⟩, Kept.refl _ _ _, Nat.le_refl _, fun b => Iff.rfl⟩
  · refine (R.gh.imp fun av v _ h => hav _ _ h).append (All2.ofMap fun x hx => ?_)
    obtain ⟨r, g, h1, h2, rfl⟩ := mem_toks.1 hx
    exact hav _ _ (tok_rel h2 (L.rg r g h2))
  · intro r g h
    exact Reg.at_mono hm (fun _ _ => rfl) (fun _ _ _ _ => rfl) (L.rg r g (hlk r g h).2)
  · intro r g h; exact L.inj r g (hlk r g h).2
  · intro r r' g g' b h1 h2 h3 h4
    exact L.sep r r' g g' b (hlk _ _ h1).2 (hlk _ _ h2).2 h3 h4
  · intro r g b h1 h2; exact L.al r g b (hlk _ _ h1).2 h2
  · intro r g b h1 h2
    exact .inr (cxIn_own.2 ⟨r, g, (hlk _ _ h1).1, (hlk _ _ h1).2, h2⟩)
  · intro r l h1 _
    rw [(cxIn_io.1 h1).2.2]
    exact .rfl' _
  · intro r g h p m hpm hp gm hgm
    exact L.hl r g (hlk _ _ h).2 p m hpm hp gm (hlk _ _ hgm).2
  · intro r g h; exact L.told r g (hlk _ _ h).2
  · intro r g h; exact L.ht r g (hlk _ _ h).2

theorem FreshN.into {cx : Cx} {φ : Phi} {st : St} {w : World} {n : Nat} (h : FreshN cx st n) (ids : List Nat) : FreshN (cxIn cx φ st ids w) (stIn φ st ids) n := by
  refine ⟨⟨?_, h.1.2.1, ?_, ?_⟩, ?_⟩
  · show look (restr ids st.regs) n = none
    rw [look_restr, h.1.1]; split <;> rfl
  · intro av hav hm
    rcases List.mem_append.1 hav with hav | hav
    · exact h.1.2.2.1 av hav hm
    · obtain ⟨x, hx, rfl⟩ := List.mem_map.1 hav
      obtain ⟨r, g, _, h2, rfl⟩ := mem_toks.1 hx
      have : r = n := by cases g <;> exact hm
      rw [this, h.1.1] at h2; cases h2
  · intro r g hg p hp
    exact h.1.2.2.2 r g (look_restr_some hg).2 p hp
  · intro l hl
    obtain ⟨_, ⟨g, hg⟩, _⟩ := cxIn_io.1 hl
    rw [h.1.1] at hg; cases hg

theorem All2.both {α β : Type} {R S : α → β → Prop} {as : List α} {bs : List β} (h : All2 R as bs) (k : All2 S as bs) : All2 (fun a b => R a b ∧ S a b) as bs := by
  induction h with
  | nil => exact .nil
  | cons h t ih => cases k with
    | cons h2 t2 => exact .cons ⟨h, h2⟩ (ih t2)

/-- What an effect leaves: the holes lead to no other, the kinds stay. -/
structure Closed (ids : List Nat) (rs : Regs) (e : Eff) (n : Nat) : Prop where
  old : ∀ r ∈ ids, ∀ g, look rs r = some g → ∀ p m, (p, m) ∈ g.holes → m ∈ ids
  new : ∀ r ∈ touch e, ∀ g, look (e.app rs) r = some g → (∀ p m, (p, m) ∈ g.holes → m ∈ ids ∨ (n ≤ m ∧ m < n + 16)) ∧ ∀ g0, look rs r = some g0 → kindB g0 g = true

theorem RelF.outof {cx : Cx} {φ φ' : Phi} {st : St} {a : Act} {w w' : World} (R : RelF cx φ st a w) {ids : List Nat} {e : Eff} {n : Nat} (hf : ∀ k, k < 16 → FreshN cx st (n + k))
    (R' : RelF (cxIn cx φ st ids w) φ' { stIn φ st ids with regs := e.app (restr ids st.regs) } a w')
    (ht : ∀ r ∈ touch e, (r ∈ ids ∧ (look st.regs r).isSome = true) ∨ (n ≤ r ∧ r < n + 16)) (hcl : Closed ids st.regs e n) :
    ∃ φ'', RelF cx φ'' { st with regs := e.app st.regs } a w' ∧ ∀ av V, (∀ r ∈ av.allIds, r ∈ ids ∨ (n ≤ r ∧ r < n + 16)) →
      AVRel (e.app (restr ids st.regs)) φ' (okOf (e.app (restr ids st.regs)) φ') w' av V → AVRel (e.app st.regs) φ'' (okOf (e.app st.regs) φ'') w' av V := by
  classical
  have L := R.lay
  have L' := R'.lay
  let A : Nat → Prop := fun r => (r ∈ ids ∧ (look st.regs r).isSome = true) ∨ (n ≤ r ∧ r < n + 16)
  let φ'' : Phi := ⟨fun r => if A r then φ' r else φ r, φ.base⟩
  have hfr : ∀ r, n ≤ r → r < n + 16 → FreshN cx st r := fun r h1 h2 => by
    have := hf (r - n) (by omega)
    rwa [show n + (r - n) = r from by omega] at this
  have lA : ∀ r, A r → look (e.app st.regs) r = look (e.app (restr ids st.regs)) r := by
    intro r hr
    refine look_app_congr ?_
    rw [look_restr]
    rcases hr with ⟨h1, _⟩ | ⟨h1, h2⟩
    · rw [if_pos h1]
    · rw [(hfr r h1 h2).1.1]; split <;> rfl
  have lN : ∀ r, ¬ A r → look (e.app st.regs) r = look st.regs r := fun r hr => look_app_not fun h => hr (ht r h)
  have lN' : ∀ r, ¬ A r → look (e.app (restr ids st.regs)) r = none := by
    intro r hr
    rw [look_app_not fun h => hr (ht r h), look_restr]
    split
    · rename_i hm
      cases hl : look st.regs r with
      | none => rfl
      | some g => exact (hr (.inl ⟨hm, by rw [hl]; rfl⟩)).elim
    · rfl
  have φA : ∀ r, A r → φ'' r = φ' r := fun r hr => by show (if A r then φ' r else φ r) = φ' r; rw [if_pos hr]
  have φN : ∀ r, ¬ A r → φ'' r = φ r := fun r hr => by show (if A r then φ' r else φ r) = φ r; rw [if_neg hr]
  -- the children of those within are within
  have kids : ∀ r g, A r → look (e.app st.regs) r = some g → ∀ p m gm, (p, m) ∈ g.holes → look (e.app st.regs) m = some gm → A m := by
    intro r g hr hg p m gm hpm hgm
    have : m ∈ ids ∨ (n ≤ m ∧ m < n + 16) := by
      by_cases htr : r ∈ touch e
      · exact (hcl.new r htr g hg).1 p m hpm
      · rw [look_app_not htr] at hg
        rcases hr with ⟨h1, _⟩ | ⟨h1, h2⟩
        · exact .inl (hcl.old r h1 g hg p m hpm)
        · rw [(hfr r h1 h2).1.1] at hg; cases hg
    rcases this with h1 | h1
    · by_cases hA : A m
      · exact hA
      · rw [lN m hA] at hgm
        exact .inl ⟨h1, by rw [hgm]; rfl⟩
    · exact .inr h1
  have kind : ∀ r g0 g, A r → look st.regs r = some g0 → look (e.app st.regs) r = some g → kindB g0 g = true := by
    intro r g0 g hr h0 hg
    by_cases htr : r ∈ touch e
    · exact (hcl.new r htr g hg).2 g0 h0
    · rw [look_app_not htr, h0] at hg
      cases hg
      cases g0 <;> rfl
  obtain ⟨gh1, gh2⟩ := All2.split R.gh.length R'.gh
  have htok := All2.toMap gh2
  -- the headers stay
  have hhdr : ∀ m g0 gm, A m → look st.regs m = some g0 → look (e.app st.regs) m = some gm → hdr (φ' m) gm = hdr (φ m) g0 := by
    intro m g0 gm hA h0 hg
    have hmem : m ∈ ids := by
      rcases hA with ⟨h1, _⟩ | ⟨h1, h2⟩
      · exact h1
      · rw [(hfr m h1 h2).1.1] at h0; cases h0
    have := htok _ (mem_toks.2 ⟨m, g0, hmem, h0, rfl⟩)
    exact (tok_hdr this (by rw [← lA m hA]; exact hg) (kind m g0 gm hA h0 hg)).symm
  -- own blocks within
  have ownLive : ∀ b, (cxIn cx φ st ids w).own b → ∃ r g, A r ∧ look st.regs r = some g ∧ (φ r).has b := by
    intro b hb
    obtain ⟨r, g, h1, h2, h3⟩ := cxIn_own.1 hb
    exact ⟨r, g, .inl ⟨h1, by rw [h2]; rfl⟩, h2, h3⟩
  -- old readable blocks stay
  have hm : ∀ b o, okOf st.regs φ b → w.heap[b]? = some o → okOf (e.app st.regs) φ'' b ∧ w'.heap[b]? = some o := by
    intro b o hok hh
    have hlt : b < w.heap.size := by
      rcases Nat.lt_or_ge b w.heap.size with h1 | h1
      · exact h1
      · simp [Array.getElem?_eq_none h1] at hh
    have hno : ¬ (cxIn cx φ st ids w).own b := fun h => by
      obtain ⟨r, g, _, h2, h3⟩ := ownLive b h
      exact hok.1 r g h2 h3
    refine ⟨⟨fun r g hg hb => ?_, hok.2⟩, (R'.kp.block b hlt hno).trans hh⟩
    by_cases hA : A r
    · rw [φA r hA] at hb
      rw [lA r hA] at hg
      rcases L'.fr r g b hg hb with h1 | h1
      · have h1' : w.heap.size ≤ b := h1
        omega
      · exact hno h1
    · rw [φN r hA] at hb
      rw [lN r hA] at hg
      exact hok.1 r g hg hb
  -- a region beside keeps its blocks
  have stay : ∀ r g b, ¬ A r → look st.regs r = some g → (φ r).has b → w'.heap[b]? = w.heap[b]? := by
    intro r g b hA hg hb
    refine R'.kp.block b (L.al r g b hg hb) fun ho => ?_
    obtain ⟨r2, g2, h2, h3, h4⟩ := ownLive b ho
    have := L.sep r r2 g g2 b hg h3 hb h4
    subst this
    exact hA h2
  -- new readable blocks too
  have hm' : ∀ b o, okOf (e.app (restr ids st.regs)) φ' b → w'.heap[b]? = some o → okOf (e.app st.regs) φ'' b ∧ w'.heap[b]? = some o := by
    intro b o hok hh
    refine ⟨⟨fun r g hg hb => ?_, ?_⟩, hh⟩
    · by_cases hA : A r
      · rw [φA r hA] at hb
        rw [lA r hA] at hg
        exact hok.1 r g hg hb
      · rw [φN r hA] at hb
        rw [lN r hA] at hg
        rcases (R'.bs b).1 hok.2 with h1 | h1 | h1
        · have := L.al r g b hg hb
          have h1' : w.heap.size ≤ b := h1
          omega
        · obtain ⟨r2, g2, h2, h3, h4⟩ := ownLive b h1
          have := L.sep r r2 g g2 b hg h3 hb h4
          subst this
          exact hA h2
        · exact h1.1 r g hg hb
    · show φ.base b
      rcases (R'.bs b).1 hok.2 with h1 | h1 | h1
      · exact (R.bs b).2 (.inl (Nat.le_trans R.hB h1))
      · obtain ⟨r2, g2, h2, h3, h4⟩ := ownLive b h1
        exact (R.bs b).2 ((L.fr r2 g2 b h3 h4).elim .inl fun h => .inr (.inl h))
      · exact h1.2
  -- a simple value that told on both sides
  have hsv : ∀ x V, SVRel st.regs φ (okOf st.regs φ) w x V → SVRel (e.app (restr ids st.regs)) φ' (okOf (e.app (restr ids st.regs)) φ') w' x V → SVRel (e.app st.regs) φ'' (okOf (e.app st.regs) φ'') w' x V := by
    intro x V h1 h2
    cases x with
    | undef => trivial
    | val t x => exact VRel.mono hm h1
    | nilsl => exact h1
    | fn0 f => exact h1
    | fna f r p =>
      obtain ⟨pv, e1, h1⟩ := h1
      obtain ⟨pv2, e2, h2⟩ := h2
      rw [e1] at e2
      simp only [Value.func.injEq, Array.mk.injEq, List.cons.injEq, true_and, and_true] at e2
      subst e2
      refine ⟨pv, e1, fun g hg => ?_⟩
      by_cases hA : A r
      · rw [lA r hA] at hg
        have := h2 g hg
        unfold addrRel at this ⊢
        rw [φA r hA]; exact this
      · rw [lN r hA] at hg
        have := h1 g hg
        unfold addrRel at this ⊢
        rw [φN r hA]; exact this
    | fnr f t x =>
      obtain ⟨b, o, cs, ty, fz, e1, e2, e3, e4⟩ := h1
      exact ⟨b, o, cs, ty, fz, e1, (hm _ _ e2 e3).1, (hm _ _ e2 e3).2, Ty.rd_mono hm _ _ _ e4⟩
    | nilp => exact h1
    | valn t x => exact ⟨VRel.mono hm h1.1, h1.2⟩
    | nilq e neg => exact h1
    | ra t x =>
      obtain ⟨b, o, cs, ty, fz, e1, e2, e3, e4⟩ := h1
      exact ⟨b, o, cs, ty, fz, e1, (hm _ _ e2 e3).1, (hm _ _ e2 e3).2, Ty.rd_mono hm _ _ _ e4⟩
    | nst t x H =>
      obtain ⟨e1, e2, e3, e0, e4⟩ := h1
      obtain ⟨_, _, _, _, f4⟩ := h2
      refine ⟨Ty.rd_mono' hm _ _ _ _ (fun p b hb => by cases hb) e1, e2, e3, e0, fun p m hpm => ⟨(e4 p m hpm).1, fun g hg => ?_⟩⟩
      by_cases hA : A m
      · rw [φA m hA]; rw [lA m hA] at hg; exact (f4 p m hpm).2 g hg
      · rw [φN m hA]; rw [lN m hA] at hg; exact (e4 p m hpm).2 g hg
    | mp r =>
      intro k v o H hg
      by_cases hA : A r
      · rw [φA r hA]; rw [lA r hA] at hg; exact h2 k v o H hg
      · rw [φN r hA]; rw [lN r hA] at hg; exact h1 k v o H hg
    | slv r lo hi =>
      intro t xs H hg
      by_cases hA : A r
      · rw [φA r hA]; rw [lA r hA] at hg; exact h2 t xs H hg
      · rw [φN r hA]; rw [lN r hA] at hg; exact h1 t xs H hg
    | sl r =>
      intro t xs H hg
      by_cases hA : A r
      · rw [φA r hA]; rw [lA r hA] at hg; exact h2 t xs H hg
      · rw [φN r hA]; rw [lN r hA] at hg; exact h1 t xs H hg
    | addr r p =>
      intro g hg
      by_cases hA : A r
      · rw [lA r hA] at hg
        have := h2 g hg
        unfold addrRel at this ⊢
        rw [φA r hA]; exact this
      · rw [lN r hA] at hg
        have := h1 g hg
        unfold addrRel at this ⊢
        rw [φN r hA]; exact this
  have hav : ∀ av V, AVRel st.regs φ (okOf st.regs φ) w av V → AVRel (e.app (restr ids st.regs)) φ' (okOf (e.app (restr ids st.regs)) φ') w' av V → AVRel (e.app st.regs) φ'' (okOf (e.app st.regs) φ'') w' av V := by
    intro av V h1 h2
    cases av with
    | s x => exact hsv x _ h1 h2
    | tup xs =>
      obtain ⟨vs, e1, k1⟩ := h1
      obtain ⟨vs', e2, k2⟩ := h2
      rw [e1] at e2
      cases e2
      exact ⟨vs, e1, (k1.both k2).imp fun x V _ hx => hsv x V hx.1 hx.2⟩
    | fn f xs =>
      obtain ⟨vs, e1, k1⟩ := h1
      obtain ⟨vs', e2, k2⟩ := h2
      rw [e1] at e2
      cases e2
      exact ⟨vs, e1, (k1.both k2).imp fun x V _ hx => hsv x V hx.1 hx.2⟩
    | gd k b want x => exact ⟨fun hb => hsv x _ (h1.1 hb) (h2.1 hb), h1.2⟩
  refine ⟨φ'', ⟨R.size, R.len, R.df, fun i av h => hav av _ (R.tm i av h) (R'.tm i av h), (R.gh.both gh1).imp fun av V _ h => hav av V h.1 h.2, ⟨?_, ?_, ?_, ?_, ?_, ?_, ?_, ?_, ?_⟩, ?_, ?_, R.bs⟩, ?_⟩
  · intro r g hg
    by_cases hA : A r
    · rw [lA r hA] at hg
      rw [φA r hA]
      exact Reg.at_mono hm' (fun _ _ => rfl) (fun _ _ _ _ => rfl) (L'.rg r g hg)
    · rw [lN r hA] at hg
      rw [φN r hA]
      exact Reg.at_mono hm (fun b hb => stay r g b hA hg (Sub.has_blk hb)) (fun p b _ hb => stay r g b hA hg ⟨p, hb⟩) (L.rg r g hg)
  · intro r g hg
    by_cases hA : A r
    · rw [lA r hA] at hg
      rw [φA r hA]; exact L'.inj r g hg
    · rw [lN r hA] at hg
      rw [φN r hA]; exact L.inj r g hg
  · intro r r' g g' b h1 h2 h3 h4
    have mixed : ∀ r r' g g', A r → ¬ A r' → look (e.app st.regs) r = some g → look (e.app st.regs) r' = some g' → (φ'' r).has b → (φ'' r').has b → False := by
      intro r r' g g' hA hN k1 k2 k3 k4
      rw [lA r hA] at k1
      rw [lN r' hN] at k2
      rw [φA r hA] at k3
      rw [φN r' hN] at k4
      have hb := L.al r' g' b k2 k4
      rcases L'.fr r g b k1 k3 with h5 | h5
      · have h5' : w.heap.size ≤ b := h5
        omega
      · obtain ⟨r2, g2, h6, h7, h8⟩ := ownLive b h5
        have := L.sep r' r2 g' g2 b k2 h7 k4 h8
        subst this
        exact hN h6
    by_cases hA : A r
    · by_cases hA' : A r'
      · rw [lA r hA] at h1
        rw [lA r' hA'] at h2
        rw [φA r hA] at h3
        rw [φA r' hA'] at h4
        exact L'.sep r r' g g' b h1 h2 h3 h4
      · exact (mixed r r' g g' hA hA' h1 h2 h3 h4).elim
    · by_cases hA' : A r'
      · exact (mixed r' r g' g hA' hA h2 h1 h4 h3).elim
      · rw [lN r hA] at h1
        rw [lN r' hA'] at h2
        rw [φN r hA] at h3
        rw [φN r' hA'] at h4
        exact L.sep r r' g g' b h1 h2 h3 h4
  · intro r g b hg hb
    by_cases hA : A r
    · rw [lA r hA] at hg
      rw [φA r hA] at hb
      exact L'.al r g b hg hb
    · rw [lN r hA] at hg
      rw [φN r hA] at hb
      exact Nat.lt_of_lt_of_le (L.al r g b hg hb) R'.kp.size
  · intro r g b h1 h2
    by_cases hA : A r
    · rw [lA r hA] at h1
      rw [φA r hA] at h2
      rcases L'.fr r g b h1 h2 with h5 | h5
      · exact .inl (Nat.le_trans R.hB h5)
      · obtain ⟨r2, g2, h6, h7, h8⟩ := ownLive b h5
        exact L.fr r2 g2 b h7 h8
    · rw [lN r hA] at h1
      rw [φN r hA] at h2
      exact L.fr r g b h1 h2
  · intro r l h1 h2
    by_cases hA : A r
    · rw [φA r hA]
      rw [lA r hA] at h2
      rcases hA with ⟨h3, h4⟩ | ⟨h3, h4⟩
      · obtain ⟨g, hg⟩ := Option.isSome_iff_exists.1 h4
        exact (L'.io r (φ r) (cxIn_io.2 ⟨h3, ⟨g, hg⟩, rfl⟩) h2).trans (L.io r l h1 h4)
      · exact ((hfr r h3 h4).2 l h1).elim
    · rw [φN r hA]
      rw [lN r hA] at h2
      exact L.io r l h1 h2
  · intro r g hg p m hpm hp gm hgm
    by_cases hA : A r
    · have hAm := kids r g hA hg p m gm hpm hgm
      rw [φA r hA, φA m hAm]
      rw [lA r hA] at hg
      rw [lA m hAm] at hgm
      exact L'.hl r g hg p m hpm hp gm hgm
    · rw [φN r hA]
      have hg' := hg
      rw [lN r hA] at hg'
      rw [cellR_congr (w := w) fun b hb => stay r g b hA hg' (Sub.has_blk hb)]
      by_cases hAm : A m
      · rw [φA m hAm]
        cases h0 : look st.regs m with
        | none =>
          rcases hAm with ⟨_, h1⟩ | ⟨h1, h2⟩
          · rw [h0] at h1; cases h1
          · exact ((hfr m h1 h2).1.2.2.2 r g hg' p hpm).elim
        | some g0 =>
          rw [hhdr m g0 gm hAm h0 hgm]
          exact L.hl r g hg' p m hpm hp g0 h0
      · rw [φN m hAm]
        have hgm' := hgm
        rw [lN m hAm] at hgm'
        exact L.hl r g hg' p m hpm hp gm hgm'
  · intro r g hg
    by_cases hA : A r
    · rw [lA r hA] at hg
      rw [φA r hA]; exact L'.told r g hg
    · rw [lN r hA] at hg
      rw [φN r hA]; exact L.told r g hg
  · intro r g hg
    by_cases hA : A r
    · rw [lA r hA] at hg
      exact L'.ht r g hg
    · rw [lN r hA] at hg
      exact L.ht r g hg
  · have hk := R'.kp
    refine ⟨hk.os.trans R.kp.os, hk.tape.trans R.kp.tape, hk.output.trans R.kp.output, Nat.le_trans R.kp.size hk.size, fun k h1 h2 => ?_⟩
    refine (hk.block k (Nat.lt_of_lt_of_le h1 R.hB) fun ho => ?_).trans (R.kp.block k h1 h2)
    obtain ⟨r2, g2, _, h7, h8⟩ := ownLive k ho
    rcases L.fr r2 g2 k h7 h8 with h9 | h9
    · omega
    · exact h2 h9
  · exact Nat.le_trans R.hB R'.kp.size
  · intro av V hids hav
    refine AVRel.mono hm' (fun r hr g' hg => ?_) hav
    have hor := hids r (AV.allIds_spec hr)
    by_cases hA : A r
    · exact ⟨by rw [φA r hA]; exact .rfl' _, g', by rw [← lA r hA]; exact hg, SameKind.refl _⟩
    · exfalso
      rcases hor with h1 | h1
      · rw [lN r hA] at hg
        exact hA (.inl ⟨h1, by rw [hg]; rfl⟩)
      · exact hA (.inr h1)

end Go.Lift
