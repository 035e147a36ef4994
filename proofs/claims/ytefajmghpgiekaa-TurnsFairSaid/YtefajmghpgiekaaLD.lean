/- Lines for the functions of this seat; merged from texts of their own. -/
import Derived.Test.YtefajmghpgiekaaLC
import Derived.Lib.SliceRun
set_option linter.unusedVariables false
set_option linter.unusedSimpArgs false
/- One operation of a region, with its guard, calls among them; a region in the text's order. -/
namespace Go.Lift
open Go

structure Env where
  P : Program
  sum : FuncId → Option Summ
  /-- how many regions came in -/
  nio : Nat
  /-- what lives at the head of a loop, by the number of the block round it; which slices are to be grown there -/
  head : Nat → List Tmp × List (Tmp × Ty)
  /-- what lives behind a block -/
  after : Nat → Option (List Tmp)
  /-- what lives where a loop is left -/
  leave : Nat → List Tmp
  /-- the loops, by the same numbers -/
  loops : Nat → Option Loop
def EnvOK (E : Env) : Prop := (∀ f S, E.sum f = some S → SumOK E.P f S) ∧ E.P.follows .mixedOrders = true

def tmpsOf (l : List Operand) : List Tmp := l.filterMap fun
  | .tmp t => some t
  | _ => none

/-- A slice that is nil if it is empty, as a slice. -/
def weakS : SV → SV
  | .valn t xs => .val (.ro t) xs
  | v => v
theorem weakS_sound {rs : Regs} {φ : Phi} {ok : Nat → Prop} {w : World} {v : SV} {V : Value} (h : SVRel rs φ ok w v V) : SVRel rs φ ok w (weakS v) V := by
  cases v <;> first | exact h.1 | exact h
/-- An operand's value; t must be one of ts. -/
def argA (tm : List AV) (ts : List Tmp) : Operand → Option AV
  | .tmp t => if ts.contains t = true then (match tm[t]? with
      | some (.gd _ _ _ v) => some (.s (weakS v))
      | some (.s v) => some (.s (weakS v))
      | r => r) else none
  | .const v => (constAV v).map AV.s
  | .func f => some (.fn f [])
  | .global _ => none
def argS (tm : List AV) (ts : List Tmp) (x : Operand) : Option SV :=
  match argA tm ts x with
  | some (.s v) => some v
  | _ => none
def gdOf (tm : List AV) (t : Tmp) : List Prop :=
  match tm[t]? with
  | some (.gd _ b w _) => [b = w]
  | _ => []
def gdVC (tm : List AV) (ts : List Tmp) : List Prop := ts.flatMap (gdOf tm)

theorem argA_sound {cx : Cx} {φ : Phi} {st : St} {a : Act} {w : World} (R : RelF cx φ st a w) {ts : List Tmp} (hvc : ∀ p ∈ gdVC st.tmps ts, p) {x : Operand} {v : AV} (h : argA st.tmps ts x = some v) :
    AVRel st.regs φ (okOf st.regs φ) w v (a.eval x) := by
  cases x with
  | tmp t =>
    simp only [argA] at h
    split at h
    · rename_i hm
      cases hv : st.tmps[t]? with
      | none => rw [hv] at h; cases h
      | some av =>
        rw [hv] at h
        have hr := R.tm t av hv
        cases av with
        | gd k b w' s =>
          simp only [Option.some.injEq] at h
          subst h
          have : b = w' := hvc _ (List.mem_flatMap.2 ⟨t, by simpa using hm, by simp [gdOf, hv]⟩)
          exact weakS_sound (hr.1 this)
        | s x => cases h; exact weakS_sound hr
        | tup x => cases h; exact hr
        | fn f x => cases h; exact hr
    · cases h
  | const c =>
    simp only [argA, Option.map_eq_some_iff] at h
    obtain ⟨s, hs, rfl⟩ := h
    exact constAV_sound hs
  | global g => simp [argA] at h
  | func f => simp only [argA, Option.some.injEq] at h; subst h; exact ⟨#[], rfl, .nil⟩
theorem argS_sound {cx : Cx} {φ : Phi} {st : St} {a : Act} {w : World} (R : RelF cx φ st a w) {ts : List Tmp} (hvc : ∀ p ∈ gdVC st.tmps ts, p) {x : Operand} {v : SV} (h : argS st.tmps ts x = some v) :
    SVRel st.regs φ (okOf st.regs φ) w v (a.eval x) := by
  unfold argS at h
  split at h
  · rename_i s hs
    cases h
    exact argA_sound R hvc hs
  · cases h

/-- May it be called? -/
def callable (P : Program) (f : FuncId) : Bool :=
  match P.funcs[f]? with
  | some fn => !(fn.name == "runtime.NumGoroutine") && fn.body.isSome
  | none => false

def rawV (tm : List AV) : Operand → Option (List Prop × SV)
  | .tmp t => match tm[t]? with
    | some (.s v) => some ([], v)
    | some (.gd _ b w v) => some ([b = w], v)
    | _ => none
  | .const v => (constAV v).map fun s => ([], s)
  | _ => none
theorem rawV_sound {cx : Cx} {φ : Phi} {st : St} {a : Act} {w : World} (R : RelF cx φ st a w) {x : Operand} {vc : List Prop} {v : SV} (h : rawV st.tmps x = some (vc, v)) (hvc : ∀ p ∈ vc, p) :
    SVRel st.regs φ (okOf st.regs φ) w v (a.eval x) := by
  unfold rawV at h
  split at h
  · rename_i t
    split at h
    · rename_i hv; cases h; exact R.tm t _ hv
    · rename_i hv; cases h; exact (R.tm t _ hv).1 (hvc _ (by simp))
    · cases h
  · simp only [Option.map_eq_some_iff] at h
    obtain ⟨s, hs, e⟩ := h
    cases e
    exact constAV_sound hs
  · cases h

def pickV (tm : List AV) (c a b : Operand) : Option Out :=
  match rawV tm c, rawV tm a, rawV tm b with
  | some (vc0, .val .bool c), some (vc1, .val t x), some (vc2, .val u y) => match castTy u t y with
    | some y => some (vc0 ++ vc1.map (fun p => c = true → p) ++ vc2.map (fun p => c = false → p), .s (.val t (if c = true then x else y)), [])
    | none => none
  | _, _, _ => none

/-- Whether a slice is nil. -/
def nilCmp (rs : Regs) (neg : Bool) : SV → Option SV
  | .valn _ xs => some (vB (xs.isEmpty != neg))
  | .nilsl => some (vB (!neg))
  | .val (.ro _) xs => some (.nilq (List.isEmpty xs) neg)
  | .sl r => match look rs r with
    | some (.row _ xs) => some (.nilq xs.isEmpty neg)
    | _ => none
  | _ => none
def isSliceT (P : Program) (t : TypeId) : Bool :=
  match P.underlying t with
  | some (.slice _) => true
  | _ => false
def nilTest (P : Program) : Op → Option (Bool × Operand)
  | .binOp .eql t x (.const (.slice none 0 0)) _ => if isSliceT P t = true then some (false, x) else none
  | .binOp .neq t x (.const (.slice none 0 0)) _ => if isSliceT P t = true then some (true, x) else none
  | _ => none
def nilOut (rs : Regs) (neg : Bool) : Option (List Prop × SV) → Option Out
  | some (vc, v) => (nilCmp rs neg v).map fun r => (vc, .s r, [])
  | none => none

def opPlain (E : Env) (tm : List AV) (rs : Regs) (n : Nat) (o : Oper) : Option Out :=
  match nilTest E.P o.op with
  | some (neg, x) => nilOut rs neg (rawV tm x)
  | none => match o.op with
  | .pick c a b => pickV tm c a b
  | .call { callee := .value f, args := args, argTypes := _ } =>
    let ts := tmpsOf (f :: args.toList)
    match argA tm ts f, mapArgs (argS tm ts) args.toList with
    | some (.fn fid caps), some vs => match E.sum fid with
      | some S => if callable E.P fid = true then (callV S rs n (vs ++ caps)).map fun r => (gdVC tm ts ++ r.1, r.2) else none
      | none => none
    | _, _ => none
  | _ => let ts := tmpsOf o.op.operands.toList
    (core E.P rs n (argS tm ts) (argA tm ts) o).map fun r => (gdVC tm ts ++ r.1, r.2)

/-- What an operation comes to, whatever stands behind it. -/
def Does (cx : Cx) (st : St) (a : Act) (w : World) (o : Oper) (av : AV) (e : Eff) : Prop :=
  ∀ (next : Act → World → Prop) (Q : Exit → Act → World → Prop),
    (∀ V w' φ', RelF cx φ' { st with regs := e.app st.regs } a w' → AVRel (e.app st.regs) φ' (okOf (e.app st.regs) φ') w' av V → next (a.put o.dst V) w') → o.wp cx.P a w next Q

theorem Does.of_tells {cx : Cx} {st : St} {a : Act} {w : World} {o : Oper} {av : AV} {e : Eff} (h : Tells cx st a w o av e) : Does cx st a w o av e := by
  obtain ⟨r, V, w', φ', h1, h2, h3, h4⟩ := h
  intro next Q hn
  unfold Oper.wp
  rw [h1]
  rcases h2 with rfl | ⟨rfl, rfl⟩
  · exact hn _ _ _ h3 h4
  · exact hn _ _ _ h3 h4

theorem run_eql_slice_nilS {P : Program} {w : World} {t e : TypeId} {a : Option Addr} {n c : Nat} (h : P.underlying t = some (.slice e)) : (binOp .eql t (.slice a n c) (.slice none 0 0)).run P w = .ok (.bool (a.isNone != false)) w := by
  simp only [binOp]
  simp [Op.equal, Op.maxDepth, Lib.run_equalIn_slice_nil w 9999 t e a n c 0 0 h]
theorem run_neq_slice_nilS {P : Program} {w : World} {t e : TypeId} {a : Option Addr} {n c : Nat} (h : P.underlying t = some (.slice e)) : (binOp .neq t (.slice a n c) (.slice none 0 0)).run P w = .ok (.bool (a.isNone != true)) w := by
  simp only [binOp]
  simp [Op.equal, Op.maxDepth, Lib.run_equalIn_slice_nil w 9999 t e a n c 0 0 h]
theorem nilOut_sound {cx : Cx} {φ : Phi} {st : St} {a : Act} {w : World} (R : RelF cx φ st a w) {o : Oper} {neg : Bool} {x : Operand} (ht : nilTest cx.P o.op = some (neg, x)) {vc : List Prop} {av : AV} {e : Eff}
    (h : nilOut st.regs neg (rawV st.tmps x) = some (vc, av, e)) (hvc : ∀ p ∈ vc, p) : Does cx st a w o av e := by
  unfold nilOut at h
  split at h
  · rename_i vc' v hr
    rw [Option.map_eq_some_iff] at h
    obtain ⟨r, hc, e1⟩ := h
    cases e1
    have hv := rawV_sound R hr hvc
    -- what the machine says
    have key : ∃ (ad : Option Addr) (len cap : Nat), a.eval x = .slice ad len cap ∧ SVRel st.regs φ (okOf st.regs φ) w r (.bool (ad.isNone != neg)) := by
      unfold nilCmp at hc
      split at hc
      · rename_i t xs
        cases hc
        obtain ⟨⟨⟨ad, cap, h0, h1, h2⟩, h3, h4⟩, h5⟩ := hv
        have hV : a.eval x = .slice ad (List.length xs) cap := by
          cases hx : a.eval x with
          | agg l => rw [hx] at h4; simp [Value.isAgg, Ty.agg] at h4
          | slice a1 l1 c1 => rw [hx] at h0; simp [Value.cells] at h0; obtain ⟨rfl, rfl, rfl⟩ := h0; rfl
          | _ => rw [hx] at h0; simp [Value.cells] at h0
        refine ⟨ad, _, _, hV, ?_⟩
        have : xs.isEmpty = ad.isNone := by
          by_cases hxs : xs = []
          · have := h5 hxs
            rw [hV] at this
            have e := (Value.slice.inj this).1
            subst e
            rw [hxs]; rfl
          · rcases h2 with h2 | ⟨b, off, cs, ty, fz, ha, _⟩
            · exact (hxs h2).elim
            · subst ha
              cases xs with
              | nil => exact (hxs rfl).elim
              | cons y ys => rfl
        rw [this]
        exact VRel.of_bool _ _ _
      · cases hc
        have hv' : a.eval x = .slice none 0 0 := hv
        exact ⟨none, 0, 0, hv', by cases neg <;> exact VRel.of_bool _ _ _⟩
      · rename_i t xs
        cases hc
        obtain ⟨⟨ad, cap, h0, h1, h2⟩, h3, h4⟩ := hv
        have hV : a.eval x = .slice ad (List.length xs) cap := by
          cases hx : a.eval x with
          | agg l => rw [hx] at h4; simp [Value.isAgg, Ty.agg] at h4
          | slice a1 l1 c1 => rw [hx] at h0; simp [Value.cells] at h0; obtain ⟨rfl, rfl, rfl⟩ := h0; rfl
          | _ => rw [hx] at h0; simp [Value.cells] at h0
        refine ⟨ad, _, _, hV, _, rfl, fun hb => ?_⟩
        rcases h2 with h2 | ⟨b, off, cs, ty, fz, ha, _⟩
        · rw [h2]; rfl
        · subst ha
          cases neg <;> simp at hb
      · rename_i rg
        split at hc
        · rename_i t xs hl
          cases hc
          have hV := hv t xs hl
          refine ⟨_, _, _, hV, _, rfl, fun hb => ?_⟩
          have hat := R.rg rg _ hl
          obtain ⟨hlen, hblk⟩ := hat
          unfold Loc.addr at hb
          cases hbk : (φ rg).blk with
          | none =>
            rw [hbk] at hblk
            have hcap : (φ rg).cap = 0 := hblk
            have : xs.length = 0 := by omega
            rw [List.length_eq_zero_iff] at this
            rw [this]; rfl
          | some b =>
            rw [hbk] at hb
            cases neg <;> simp at hb
        · cases hc
      · cases hc
    obtain ⟨ad, len, cap, hV, hrel⟩ := key
    refine Does.of_tells ⟨.value (.bool (ad.isNone != neg)), _, w, φ, ?_, .inl rfl, R, hrel⟩
    unfold nilTest at ht
    split at ht
    · rename_i t x' yt hop
      split at ht
      · rename_i hT
        cases ht
        simp only [isSliceT] at hT
        split at hT
        · rename_i el hu
          have hc0 : a.eval (.const (.slice none 0 0)) = .slice none 0 0 := rfl
          simp [execOp, hop, hV, hc0, eqGuard, run_eql_slice_nilS hu]
        · cases hT
      · cases ht
    · rename_i t x' yt hop
      split at ht
      · rename_i hT
        cases ht
        simp only [isSliceT] at hT
        split at hT
        · rename_i el hu
          have hc0 : a.eval (.const (.slice none 0 0)) = .slice none 0 0 := rfl
          simp [execOp, hop, hV, hc0, eqGuard, run_neq_slice_nilS hu]
        · cases hT
      · cases ht
    · cases ht
  · cases h
theorem opPlain_sound {E : Env} (hE : EnvOK E) {cx : Cx} (hP : cx.P = E.P) {φ : Phi} {st : St} {a : Act} {w : World} (R : RelF cx φ st a w) {n : Nat} (hf : ∀ k, k < 8 → FreshN cx st (n + k)) {o : Oper} {vc : List Prop} {av : AV} {e : Eff}
    (h : opPlain E st.tmps st.regs n o = some (vc, av, e)) (hvc : ∀ p ∈ vc, p) : Does cx st a w o av e := by
  unfold opPlain at h
  split at h
  · rename_i neg x hnt
    exact nilOut_sound R (hP ▸ hnt) h hvc
  split at h
  · rename_i c x y ho
    unfold pickV at h
    split at h
    · rename_i vc0 c' vc1 t x' vc2 u y' hc hx hy
      split at h
      · rename_i y2 hcast
        cases h
        obtain ⟨e1, e2⟩ := castTy_some hcast
        subst e1; subst e2
        have hC := rawV_sound R hc (fun p hp => hvc p (by simp [hp]))
        have eC := VRel.bool_eq hC
        apply Does.of_tells
        cases hb : c' with
        | true =>
          rw [hb] at eC
          have hX := rawV_sound R hx (fun p hp => hvc (c' = true → p) (List.mem_append_left _ (List.mem_append_right _ (List.mem_map.2 ⟨p, hp, rfl⟩))) hb)
          exact ⟨.value (a.eval x), a.eval x, w, φ, by simp [execOp, ho, eC, asBool], .inl rfl, R, by simp only [if_true]; exact hX⟩
        | false =>
          rw [hb] at eC
          have hY := rawV_sound R hy (fun p hp => hvc (c' = false → p) (List.mem_append_right _ (List.mem_map.2 ⟨p, hp, rfl⟩)) hb)
          exact ⟨.value (a.eval y), a.eval y, w, φ, by simp [execOp, ho, eC, asBool], .inl rfl, R, by simp only [Bool.false_eq_true, if_false]; exact hY⟩
      · cases h
    · cases h
  · rename_i f args ty ho
    simp only at h
    split at h
    · rename_i fid caps vs hfn hvs
      split at h
      · rename_i S hS
        split at h
        · rename_i hcall
          rw [Option.map_eq_some_iff] at h
          obtain ⟨⟨vc', av', e'⟩, hcv, e1⟩ := h
          cases e1
          have hgd : ∀ p ∈ gdVC st.tmps (tmpsOf (f :: args.toList)), p := fun p hp => hvc p (by simp [hp])
          have hfn' := argA_sound R hgd hfn
          obtain ⟨cs, hcs, hcaps⟩ := hfn'
          have hargs := mapArgs_sound (S := SVRel st.regs φ (okOf st.regs φ) w) (ev := a.eval) (fun x v hx => argS_sound R hgd hx) _ _ hvs
          have hall : All2 (SVRel st.regs φ (okOf st.regs φ) w) (vs ++ caps) (args.toList.map a.eval ++ cs.toList) := by
            clear hcv hvs
            generalize args.toList.map a.eval = As at hargs
            induction hargs with
            | nil => exact hcaps
            | cons h1 _ ih => exact .cons h1 ih
          have hC := callV_sound R (f := fid) (by rw [hP]; exact hE.1 fid S hS) hf hcv (fun p hp => hvc p (by simp [hp])) hall
          have hrun : (execOp a.eval o).run cx.P w = .ok (.enter fid (args.map a.eval ++ cs)) w := by
            unfold callable at hcall
            rw [← hP] at hcall
            cases hfs : cx.P.funcs[fid]? with
            | none => simp [hfs] at hcall
            | some fn =>
              simp only [hfs, Bool.and_eq_true, Bool.not_eq_true'] at hcall
              obtain ⟨hc1, hc2⟩ := hcall
              have hbn : ¬ fn.body = none := by
                intro hb; rw [hb] at hc2; cases hc2
              have hc1' : ¬ fn.name = "runtime.NumGoroutine" := by simpa using hc1
              simp [execOp, ho, resolve, hcs, Deferred.ofValue, invoke, callFunc, hfs, hc1', hbn]
          intro next Q hn
          unfold Oper.wp
          rw [hrun, Oper.upon_enter]
          have : (args.map a.eval ++ cs) = (args.toList.map a.eval ++ cs.toList).toArray := by
            apply Array.ext'
            simp
          rw [this]
          refine hC.mono ?_
          rintro e' w' ⟨V, φ', rfl, h3, h4⟩
          exact hn V w' φ' h3 h4
        · cases h
      · cases h
    · cases h
  · simp only at h
    rw [Option.map_eq_some_iff] at h
    obtain ⟨⟨vc', av', e'⟩, hcv, e1⟩ := h
    cases e1
    have hgd : ∀ p ∈ gdVC st.tmps (tmpsOf o.op.operands.toList), p := fun p hp => hvc p (by simp [hp])
    have hf0 := hf 0 (by omega)
    rw [Nat.add_zero] at hf0
    rw [← hP] at hcv
    exact Does.of_tells (core_sound R hf0 hcv (fun p hp => hvc p (by simp [hp])) (fun x v hx => argS_sound R hgd hx) (fun x v hx => argA_sound R hgd hx))

/-! ### what is named stays below a number -/
def SV.ltB (n : Nat) : SV → Bool
  | .sl r => decide (r < n)
  | .addr r _ => decide (r < n)
  | _ => true
def AV.ltB (n : Nat) : AV → Bool
  | .s v => v.ltB n
  | .tup vs => vs.all (SV.ltB n)
  | .fn _ vs => vs.all (SV.ltB n)
  | .gd _ _ _ v => v.ltB n
theorem SV.ltB_spec {n : Nat} {v : SV} (h : v.ltB n = true) {m : Nat} (hm : v.mentions m) : m < n := by
  cases v <;> simp [SV.ltB, SV.mentions] at h hm
  · omega
  · omega
theorem AV.ltB_spec {n : Nat} {v : AV} (h : v.ltB n = true) {m : Nat} (hm : v.mentions m) : m < n := by
  cases v with
  | s v => exact SV.ltB_spec h hm
  | tup vs => obtain ⟨v, hv, hm⟩ := hm; exact SV.ltB_spec (List.all_eq_true.1 h v hv) hm
  | fn f vs => obtain ⟨v, hv, hm⟩ := hm; exact SV.ltB_spec (List.all_eq_true.1 h v hv) hm
  | gd k b w v => exact SV.ltB_spec h hm
def EffI.ltB (n : Nat) : EffI → Bool
  | .set _ m _ => decide (m < n)
  | .del _ => true
def Eff.ltB (n : Nat) (e : Eff) : Bool := e.all (EffI.ltB n)
theorem look_app_lt {n : Nat} : ∀ {e : Eff} {rs : Regs} {m : Nat}, Eff.ltB n e = true → n ≤ m → look rs m = none → look (e.app rs) m = none
  | [], _, _, _, _, h => h
  | i :: e, rs, m, hl, hm, h => by
    simp only [Eff.ltB, List.all_cons, Bool.and_eq_true] at hl
    refine look_app_lt (e := e) hl.2 hm ?_
    cases i with
    | set old k g =>
      simp only [EffI.ltB, decide_eq_true_eq] at hl
      simp only [EffI.app, look_upd]
      rw [if_neg (by omega), look_without]
      split
      · rfl
      · exact h
    | del r =>
      simp only [EffI.app, look_drop]
      split
      · rfl
      · exact h

def FreshFrom (cx : Cx) (st : St) (n : Nat) : Prop := ∀ m, n ≤ m → FreshN cx st m

theorem FreshFrom.put {cx : Cx} {st : St} {n : Nat} (h : FreshFrom cx st n) {dst : Option Tmp} {av : AV} {e : Eff} (ha : av.ltB (n + 8) = true) (he : Eff.ltB (n + 8) e = true) :
    FreshFrom cx (({ st with regs := e.app st.regs } : St).put dst av) (n + 8) := by
  intro m hm
  obtain ⟨⟨h1, h2⟩, h3⟩ := h m (by omega)
  refine ⟨⟨?_, ?_⟩, h3⟩
  · rw [St.put_regs]; exact look_app_lt he hm h1
  · intro x hx hmen
    cases dst with
    | none => exact h2 x hx hmen
    | some d =>
      simp only [St.put] at hx
      rcases List.mem_or_eq_of_mem_set hx with hx | hx
      · exact h2 x hx hmen
      · subst hx
        have := AV.ltB_spec ha hmen
        omega

abbrev Key := List (Tmp × Bool)
/-- The tests under which an operation stands; what they come to. -/
def guardKey (ops : Array Oper) (tm : List AV) (j : Nat) (want : Bool) : Option (Key × Bool × Bool) :=
  match (ops[j]?).bind (·.dst) with
  | some t => match tm[t]? with
    | some (.s (.val .bool b)) => some ([(t, want)], b, want)
    | some (.gd k b w (.val .bool c)) => some (k ++ [(t, want)], (b == w && c == want), true)
    | _ => none
  | none => none
/-- What is made under a test is frozen at once. -/
def frz2 (n : Nat) (rs : Regs) : AV → Eff → Option (List Prop × SV)
  | .s v, [] => some ([], v)
  | .s (.sl m), [.set none m' (.row t xs)] => if m = m' ∧ n ≤ m ∧ m < n + 8 then some ([], .val (.ro t) xs) else none
  | .s v, [.set (some r) r' (.box t x)] => if r = r' then match look rs r with
    | some (.box t0 x0) => match castTy t t0 x with
      | some y => some ([y = x0], v)
      | none => none
    | _ => none else none
  | _, _ => none
def guarded (n : Nat) (rs : Regs) (K : Key) (b w : Bool) : Option Out → Option Out
  | some (vc, av, e) => match frz2 n rs av e with
    | some (ex, v) => some ((vc ++ ex).map (fun p => b = w → p), .gd K b w v, [])
    | none => none
  | none => none
def isCallO (o : Oper) : Bool :=
  match o.op with
  | .call _ => true
  | _ => false
def opG0 (n : Nat) (ops : Array Oper) (tm : List AV) (rs : Regs) (o : Oper) (run : Key → Option Out) : Option Out :=
  match o.guard with
  | none => match run [] with
    | some (vc, av, e) => match av with
      | .gd _ _ _ _ => none
      | av => some (vc, av, e)
    | none => none
  | some (j, want) => match guardKey ops tm j want with
    | some (K, b, w) => guarded n (if isCallO o = true then rs else []) K b w (run K)
    | none => none
/-- An operation with its guard. -/
def opG (E : Env) (ops : Array Oper) (tm : List AV) (rs : Regs) (n : Nat) (o : Oper) : Option Out :=
  match opG0 n ops tm rs o (fun _ => opPlain E tm rs n o) with
  | some (vc, av, e) => if av.ltB (n + 8) && Eff.ltB (n + 8) e then some (vc, av, e) else none
  | none => none

theorem RelF.same {cx : Cx} {φ : Phi} {s : St} {rs : Regs} {a : Act} {w : World} (R : RelF cx φ { s with regs := rs } a w) (h : ∀ r, look rs r = look s.regs r) : RelF cx φ s a w ∧ okOf rs φ = okOf s.regs φ := by
  have hok : okOf rs φ = okOf s.regs φ := by
    funext b
    simp only [okOf, h]
  have hm : ∀ b o, okOf rs φ b → w.heap[b]? = some o → okOf s.regs φ b ∧ w.heap[b]? = some o := fun b o h1 h2 => ⟨hok ▸ h1, h2⟩
  refine ⟨⟨R.size, R.df, ?_, ?_, ?_, ?_, ?_, R.kp, R.hB, R.bs⟩, hok⟩
  · intro i av hi
    exact AVRel.mono hm (fun r _ g' hg => ⟨rfl, g', by rw [h]; exact hg, SameKind.refl _⟩) (R.tm i av hi)
  · intro r g hg
    rw [← h] at hg
    exact Reg.at_mono hm (fun _ _ => rfl) (R.rg r g hg)
  · intro r r' g g' b h1 h2
    rw [← h] at h1 h2
    exact R.sep r r' g g' b h1 h2
  · intro r g b h1
    rw [← h] at h1
    exact R.fr r g b h1
  · intro r l h1 h2
    rw [← h] at h2
    exact R.io r l h1 h2
/-- What is made, frozen: nothing else has turned. -/
theorem frz_sound {cx : Cx} {st : St} {a : Act} {w : World} {o : Oper} {n : Nat} (hn : ∀ m, n ≤ m → m < n + 8 → look st.regs m = none) {ex : List Prop} {av : AV} {e : Eff} {v : SV} (h : frz2 n st.regs av e = some (ex, v)) (hex : ∀ p ∈ ex, p)
    (hd : Does cx st a w o av e) : Does cx st a w o (.s v) [] := by
  unfold frz2 at h
  split at h
  · cases h
    exact hd
  · rename_i m m' t xs
    split at h
    · rename_i em
      obtain ⟨em, hm1, hm2⟩ := em
      subst em
      cases h
      refine fun next Q hn' => hd next Q (fun V w' φ' R' hav => ?_)
      have hfr := hn m hm1 hm2
      have hlook : look (Eff.app st.regs [EffI.set none m (.row t xs)]) m = some (.row t xs) := by
        simp [Eff.app, EffI.app, look_upd]
      have hv := toVal_sound (t := .ro t) (y := xs) (l := [m]) R' (V := V) (v := .sl m) (by
        simp only [toVal, hlook, castTy_self, Option.map_some]) hav
      have R2 := R'.dels [m]
      have hsame : ∀ r, look (dels (Eff.app st.regs [EffI.set none m (.row t xs)]) [m]) r = look st.regs r := by
        intro r
        rw [look_dels]
        by_cases hr : r = m
        · subst hr; rw [if_pos (by simp), hfr]
        · rw [if_neg (by simpa using hr)]
          simp only [Eff.app, EffI.app, look_upd, without]
          rw [if_neg (fun e => hr e.symm)]
      obtain ⟨R3, hok⟩ := RelF.same (s := st) R2 hsame
      refine hn' V w' φ' R3 ?_
      show VRel (okOf (Eff.app st.regs []) φ') w' (.ro t) xs V
      rw [show Eff.app st.regs [] = st.regs from rfl, ← hok]
      exact hv
    · cases h
  · rename_i v0 r r' t x
    split at h
    · rename_i er
      subst er
      split at h
      · rename_i t0 x0 hl
        split at h
        · rename_i y hc
          cases h
          obtain ⟨e1, e2⟩ := castTy_some hc
          subst e1
          subst e2
          have hxy : x = x0 := hex _ (List.mem_cons_self ..)
          subst hxy
          refine fun next Q hn' => hd next Q (fun V w' φ' R' hav => ?_)
          have hsame : ∀ r', look (Eff.app st.regs [EffI.set (some r) r (.box t x)]) r' = look st.regs r' := by
            intro r'
            simp only [Eff.app, EffI.app, look_upd, look_without]
            by_cases hr : r = r'
            · subst hr; rw [if_pos rfl, hl]
            · rw [if_neg hr, if_neg (by simpa using hr)]
          obtain ⟨R3, hok⟩ := RelF.same (s := st) R' hsame
          refine hn' V w' φ' R3 ?_
          show SVRel (Eff.app st.regs []) φ' (okOf (Eff.app st.regs []) φ') w' v V
          rw [show Eff.app st.regs [] = st.regs from rfl, ← hok]
          exact SVRel.mono (fun b o h1 h2 => ⟨h1, h2⟩) (fun r' _ g' hg => ⟨rfl, g', by rw [hsame]; exact hg, SameKind.refl _⟩) hav
        · cases h
      · cases h
    · cases h
  · cases h

theorem frz2_nil {n : Nat} {rs : Regs} {c : Bool} {av : AV} {e : Eff} {r : List Prop × SV} (h : frz2 n (if c = true then rs else []) av e = some r) : frz2 n rs av e = some r := by
  cases c with
  | true => exact h
  | false =>
    rw [if_neg (by decide)] at h
    unfold frz2 at h ⊢
    split at h
    · exact h
    · exact h
    · simp only [look] at h
      split at h <;> cases h
    · cases h
/-- What an operation of a region comes to. -/
theorem opG_does {E : Env} (hE : EnvOK E) {cx : Cx} (hP : cx.P = E.P) {φ : Phi} {st : St} {a : Act} {w : World} (R : RelF cx φ st a w) {n : Nat} (hf : ∀ k, k < 8 → FreshN cx st (n + k)) {ops : Array Oper} {i : Nat} {o : Oper} (hi : ops[i]? = some o) {vc : List Prop} {av : AV} {e : Eff}
    (h : opG E ops st.tmps st.regs n o = some (vc, av, e)) (hvc : ∀ p ∈ vc, p) {Q : Exit → Act → World → Prop} {K : Act → World → Prop}
    (hput : ∀ V w' φ', RelF cx φ' { st with regs := e.app st.regs } a w' → AVRel (e.app st.regs) φ' (okOf (e.app st.regs) φ') w' av V → K (a.put o.dst V) w') : wpOp cx.P ops Q i K a w := by
  unfold opG at h
  split at h
  · rename_i vc' av' e' hr
    split at h
    · cases h
      unfold opG0 at hr
      unfold wpOp
      simp only [hi]
      split at hr
      · rename_i hg
        have hw : Region.wanted o (yielded ops a.tmps) = true := by simp [Region.wanted, hg]
        rw [if_pos hw]
        split at hr
        · rename_i vc1 av1 e1 hp
          have : (vc1, av1, e1) = (vc, av, e) := by
            split at hr
            · cases hr
            · simpa using hr
          cases this
          exact .inl (opPlain_sound hE hP R hf hp hvc K Q hput)
        · cases hr
      · rename_i j want hg
        split at hr
        · rename_i Ky b w2 hb
          unfold guarded at hr
          split at hr
          · rename_i r0 vc1 av1 e1 hp
            split at hr
            · rename_i ex v hfz
              cases hr
              have hy : Region.wanted o (yielded ops a.tmps) = true ↔ b = w2 := by
                unfold guardKey at hb
                have hyl : ∀ t, (ops[j]?).bind (·.dst) = some t → ∀ V, a.tmps.getD t undef = V → t < a.tmps.size → yielded ops a.tmps j = match V with
                    | .bool b => some b
                    | _ => none := by
                  intro t ht V hV hlt
                  unfold yielded
                  rw [ht]
                  have : a.tmps[t]? = some V := by
                    rw [Array.getElem?_eq_getElem hlt, ← hV]
                    simp [hlt]
                  simp only [Option.bind_some, this]
                  cases V <;> rfl
                cases hd : (ops[j]?).bind (·.dst) with
                | none => rw [hd] at hb; cases hb
                | some t =>
                  rw [hd] at hb
                  simp only at hb
                  split at hb
                  · rename_i b' hv
                    cases hb
                    have hr := R.tm t _ hv
                    have hlt : t < a.tmps.size := by rw [R.size]; exact (List.getElem?_eq_some_iff.1 hv).1
                    have := hyl t hd _ (VRel.bool_eq hr) hlt
                    simp [Region.wanted, hg, this]
                  · rename_i k b' w' c hv
                    cases hb
                    have hr := R.tm t _ hv
                    have hlt : t < a.tmps.size := by rw [R.size]; exact (List.getElem?_eq_some_iff.1 hv).1
                    by_cases hbw : b' = w'
                    · have := hyl t hd _ (VRel.bool_eq (hr.1 hbw)) hlt
                      simp [Region.wanted, hg, this, hbw]
                    · have := hyl t hd _ (hr.2 hbw) hlt
                      simp [Region.wanted, hg, this, undef, hbw]
                  · cases hb
              by_cases hbw : b = w2
              · rw [if_pos (hy.2 hbw)]
                have hvc0 : ∀ p ∈ vc1 ++ ex, p := fun p hp => hvc (b = w2 → p) (List.mem_map.2 ⟨p, hp, rfl⟩) hbw
                have hd := opPlain_sound hE hP R hf hp (fun p hp => hvc0 p (List.mem_append_left _ hp))
                have hfr : ∀ m, n ≤ m → m < n + 8 → look st.regs m = none := by
                  intro m h1 h2
                  have := (hf (m - n) (by omega)).1.1
                  rwa [show n + (m - n) = m from by omega] at this
                have hd2 := frz_sound hfr (frz2_nil hfz) (fun p hp => hvc0 p (List.mem_append_right _ hp)) hd
                exact .inl (hd2 K Q (fun V w' φ' h1 h2 => hput V w' φ' h1 ⟨fun _ => h2, fun h => (h hbw).elim⟩))
              · rw [if_neg (fun h => hbw (hy.1 h))]
                exact hput undef w φ R ⟨fun h => (hbw h).elim, fun _ => rfl⟩
            · cases hr
          · cases hr
        · cases hr
    · cases h
  · cases h

/-- The same, the temporary written. -/
theorem opG_sound {E : Env} (hE : EnvOK E) {cx : Cx} (hP : cx.P = E.P) {φ : Phi} {st : St} {a : Act} {w : World} (R : RelF cx φ st a w) {n : Nat} (hf : ∀ k, k < 8 → FreshN cx st (n + k)) {ops : Array Oper} {i : Nat} {o : Oper} (hi : ops[i]? = some o) {vc : List Prop} {av : AV} {e : Eff}
    (h : opG E ops st.tmps st.regs n o = some (vc, av, e)) (hvc : ∀ p ∈ vc, p) {Q : Exit → Act → World → Prop} {K : Act → World → Prop}
    (hK : ∀ a' w' φ', RelF cx φ' (({ st with regs := e.app st.regs } : St).put o.dst av) a' w' → K a' w') : wpOp cx.P ops Q i K a w := by
  exact opG_does hE hP R hf hi h hvc (fun V w' φ' h1 h2 => hK _ _ _ (h1.put h2))

/-! ### a state written out (for the kernel's sake) -/
def forceSV {β : Sort _} (v : SV) (k : SV → β) : β :=
  match v with
  | .undef => k .undef
  | .val t x => k (.val t x)
  | .sl r => k (.sl r)
  | .addr r p => k (.addr r p)
  | .ra t x => k (.ra t x)
  | .nilsl => k .nilsl
  | .nilp => k .nilp
  | .valn t x => k (.valn t x)
  | .nilq e neg => k (.nilq e neg)
def forceSVs {β : Sort _} : List SV → (List SV → β) → β
  | [], k => k []
  | v :: vs, k => forceSV v fun v => forceSVs vs fun vs => k (v :: vs)
def forceAV {β : Sort _} (v : AV) (k : AV → β) : β :=
  match v with
  | .s x => forceSV x fun x => k (.s x)
  | .tup vs => forceSVs vs fun vs => k (.tup vs)
  | .fn f vs => forceSVs vs fun vs => k (.fn f vs)
  | .gd key b w x => forceSV x fun x => k (.gd key b w x)
def forceTm {β : Sort _} : List AV → (List AV → β) → β
  | [], k => k []
  | v :: vs, k => forceAV v fun v => forceTm vs fun vs => k (v :: vs)
def forceReg {β : Sort _} (g : Reg) (k : Reg → β) : β :=
  match g with
  | .row t xs => k (.row t xs)
  | .box t x => k (.box t x)
  | .obox t x => k (.obox t x)
def forceRegs {β : Sort _} : Regs → (Regs → β) → β
  | [], k => k []
  | (r, g) :: rs, k => forceReg g fun g => forceRegs rs fun rs => k ((r, g) :: rs)
def forceSt {β : Sort _} (st : St) (k : St → β) : β :=
  match st with
  | ⟨tm, rs, n⟩ => forceTm tm fun tm => forceRegs rs fun rs => k ⟨tm, rs, n⟩
def stepSt (st : St) (dst : Option Tmp) (av : AV) (e : Eff) : St :=
  match st, dst with
  | ⟨tm, rs, n⟩, some d => ⟨tm.set d av, e.app rs, n⟩
  | ⟨tm, rs, n⟩, none => ⟨tm, e.app rs, n⟩
theorem stepSt_eq (st : St) (dst : Option Tmp) (av : AV) (e : Eff) : stepSt st dst av e = ({ st with regs := e.app st.regs } : St).put dst av := by
  cases dst <;> rfl
def bumpSt (st st' : St) (k : Nat) : St :=
  match st, st' with
  | ⟨_, _, n⟩, ⟨tm, rs, _⟩ => ⟨tm, rs, n + k⟩
theorem bumpSt_eq (st st' : St) (k : Nat) : bumpSt st st' k = { st' with next := st.next + k } := rfl
theorem forceSV_eq {β : Sort _} (v : SV) (k : SV → β) : forceSV v k = k v := by cases v <;> rfl
theorem forceSVs_eq {β : Sort _} : ∀ (vs : List SV) (k : List SV → β), forceSVs vs k = k vs
  | [], _ => rfl
  | v :: vs, k => by simp only [forceSVs, forceSV_eq, forceSVs_eq vs]
theorem forceAV_eq {β : Sort _} (v : AV) (k : AV → β) : forceAV v k = k v := by cases v <;> simp only [forceAV, forceSV_eq, forceSVs_eq]
theorem forceTm_eq {β : Sort _} : ∀ (vs : List AV) (k : List AV → β), forceTm vs k = k vs
  | [], _ => rfl
  | v :: vs, k => by simp only [forceTm, forceAV_eq, forceTm_eq vs]
theorem forceReg_eq {β : Sort _} (g : Reg) (k : Reg → β) : forceReg g k = k g := by cases g <;> rfl
theorem forceRegs_eq {β : Sort _} : ∀ (rs : Regs) (k : Regs → β), forceRegs rs k = k rs
  | [], _ => rfl
  | (r, g) :: rs, k => by simp only [forceRegs, forceReg_eq, forceRegs_eq rs]
theorem forceSt_eq {β : Sort _} (st : St) (k : St → β) : forceSt st k = k st := by simp only [forceSt, forceTm_eq, forceRegs_eq]

/-! ### what is told already: the tests under which an operation stands -/
def holds (tm : List AV) (p : Tmp × Bool) : Prop :=
  match tm[p.1]? with
  | some (.s (.val .bool c)) => c = p.2
  | some (.gd _ b w (.val .bool c)) => b = w ∧ c = p.2
  | _ => False
/-- A guarded value's mark says when it is there. -/
def Inv (tm : List AV) : Prop := ∀ (i : Nat) k b w v, tm[i]? = some (.gd k b w v) → (b = w ↔ ∀ p ∈ k, holds tm p)
def keyAt (tm : List AV) (t : Tmp) : Key :=
  match tm[t]? with
  | some (.gd k _ _ _) => k
  | _ => []
def inK (K k : Key) : Bool := k.all fun p => K.any fun q => q.1 == p.1 && q.2 == p.2
theorem inK_spec {K k : Key} (h : inK K k = true) : ∀ p ∈ k, p ∈ K := by
  intro p hp
  simp only [inK, List.all_eq_true, List.any_eq_true, Bool.and_eq_true, beq_iff_eq] at h
  obtain ⟨q, hq, h1, h2⟩ := h p hp
  obtain ⟨q1, q2⟩ := q
  obtain ⟨p1, p2⟩ := p
  simp only at h1 h2
  subst h1; subst h2
  exact hq
def gdVCp (K : Key) (tm : List AV) (ts : List Tmp) : List Prop := ts.flatMap fun t => if inK K (keyAt tm t) then [] else gdOf tm t
theorem gdVCp_spec {K : Key} {tm : List AV} (hI : Inv tm) (hK : ∀ p ∈ K, holds tm p) {ts : List Tmp} (h : ∀ p ∈ gdVCp K tm ts, p) : ∀ p ∈ gdVC tm ts, p := by
  intro p hp
  obtain ⟨t, ht, hpt⟩ := List.mem_flatMap.1 hp
  by_cases hk : inK K (keyAt tm t) = true
  · unfold gdOf at hpt
    split at hpt
    · rename_i k b w v hv
      simp only [List.mem_singleton] at hpt
      subst hpt
      refine (hI t k b w v hv).2 fun q hq => hK q (inK_spec hk q ?_)
      simpa [keyAt, hv] using hq
    · simp at hpt
  · exact h p (List.mem_flatMap.2 ⟨t, ht, by rw [if_neg hk]; exact hpt⟩)
def rawP (K : Key) (tm : List AV) : Operand → Option (List Prop × SV)
  | .tmp t => match tm[t]? with
    | some (.s v) => some ([], v)
    | some (.gd k b w v) => some (if inK K k then [] else [b = w], v)
    | _ => none
  | .const v => (constAV v).map fun s => ([], s)
  | _ => none
theorem rawP_spec {K : Key} {tm : List AV} (hI : Inv tm) {x : Operand} {vc' : List Prop} {v : SV} (h : rawP K tm x = some (vc', v)) :
    ∃ vc, rawV tm x = some (vc, v) ∧ ((∀ p ∈ K, holds tm p) → (∀ p ∈ vc', p) → ∀ p ∈ vc, p) := by
  unfold rawP at h
  split at h
  · rename_i t
    split at h
    · rename_i hv; cases h; exact ⟨_, by simp only [rawV, hv], fun _ h => h⟩
    · rename_i k b w v hv
      cases h
      refine ⟨[b = w], by simp only [rawV, hv], fun hK h p hp => ?_⟩
      simp only [List.mem_singleton] at hp
      subst hp
      by_cases hk : inK K k = true
      · exact (hI t k b w v hv).2 fun q hq => hK q (inK_spec hk q hq)
      · exact h _ (by rw [if_neg hk]; simp)
    · cases h
  · simp only [Option.map_eq_some_iff] at h
    obtain ⟨s, hs, e⟩ := h
    cases e
    exact ⟨[], by simp only [rawV, hs, Option.map_some], fun _ h => h⟩
  · cases h
def ckey (tm : List AV) (c : Operand) (v : Bool) : Key :=
  match c with
  | .tmp t => keyAt tm t ++ [(t, v)]
  | _ => []
theorem ckey_holds {tm : List AV} (hI : Inv tm) {c : Operand} {vc : List Prop} {b : Bool} (h : rawV tm c = some (vc, .val .bool b)) (hvc : ∀ p ∈ vc, p) : ∀ p ∈ ckey tm c b, holds tm p := by
  intro p hp
  unfold ckey at hp
  split at hp
  · rename_i t
    simp only [rawV] at h
    split at h
    · rename_i v hv
      cases h
      simp only [keyAt, hv, List.nil_append, List.mem_singleton] at hp
      subst hp
      simp [holds, hv]
    · rename_i k b' w v hv
      cases h
      have hbw : b' = w := hvc _ (by simp)
      simp only [keyAt, hv, List.mem_append, List.mem_singleton] at hp
      rcases hp with hp | hp
      · exact (hI t k b' w _ hv).1 hbw p hp
      · subst hp; simp [holds, hv, hbw]
    · cases h
  · simp at hp
def pickP (K : Key) (tm : List AV) (c a b : Operand) : Option Out :=
  match rawP K tm c, rawP (K ++ ckey tm c true) tm a, rawP (K ++ ckey tm c false) tm b with
  | some (vc0, .val .bool c), some (vc1, .val t x), some (vc2, .val u y) => match castTy u t y with
    | some y => some (vc0 ++ vc1.map (fun p => c = true → p) ++ vc2.map (fun p => c = false → p), .s (.val t (if c = true then x else y)), [])
    | none => none
  | _, _, _ => none
theorem pickP_spec {K : Key} {tm : List AV} (hI : Inv tm) {c a b : Operand} {vc' : List Prop} {av : AV} {e : Eff} (h : pickP K tm c a b = some (vc', av, e)) :
    ∃ vc, pickV tm c a b = some (vc, av, e) ∧ ((∀ p ∈ K, holds tm p) → (∀ p ∈ vc', p) → ∀ p ∈ vc, p) := by
  unfold pickP at h
  split at h
  · rename_i vc0 c' vc1 t x vc2 u y h0 h1 h2
    split at h
    · rename_i y' hc
      cases h
      obtain ⟨d0, k0, j0⟩ := rawP_spec hI h0
      obtain ⟨d1, k1, j1⟩ := rawP_spec hI h1
      obtain ⟨d2, k2, j2⟩ := rawP_spec hI h2
      refine ⟨d0 ++ d1.map (fun p => c' = true → p) ++ d2.map (fun p => c' = false → p), by simp only [pickV, k0, k1, k2, hc], fun hK hv p hp => ?_⟩
      have hd0 : ∀ p ∈ d0, p := j0 hK fun p hp => hv p (by simp [hp])
      simp only [List.mem_append, List.mem_map] at hp
      rcases hp with (hp | ⟨q, hq, rfl⟩) | ⟨q, hq, rfl⟩
      · exact hd0 p hp
      · intro hc'
        refine j1 (fun p hp => ?_) (fun p hp => hv (c' = true → p) (by simp only [List.mem_append, List.mem_map]; exact .inl (.inr ⟨p, hp, rfl⟩)) hc') q hq
        rcases List.mem_append.1 hp with hp | hp
        · exact hK p hp
        · exact ckey_holds hI k0 hd0 p (hc' ▸ hp)
      · intro hc'
        refine j2 (fun p hp => ?_) (fun p hp => hv (c' = false → p) (by simp only [List.mem_append, List.mem_map]; exact .inr ⟨p, hp, rfl⟩) hc') q hq
        rcases List.mem_append.1 hp with hp | hp
        · exact hK p hp
        · exact ckey_holds hI k0 hd0 p (hc' ▸ hp)
    · cases h
  · cases h
def opPlainP (E : Env) (K : Key) (tm : List AV) (rs : Regs) (n : Nat) (o : Oper) : Option Out :=
  match nilTest E.P o.op with
  | some (neg, x) => nilOut rs neg (rawP K tm x)
  | none => match o.op with
  | .pick c a b => pickP K tm c a b
  | .call { callee := .value f, args := args, argTypes := _ } =>
    let ts := tmpsOf (f :: args.toList)
    match argA tm ts f, mapArgs (argS tm ts) args.toList with
    | some (.fn fid caps), some vs => match E.sum fid with
      | some S => if callable E.P fid = true then (callV S rs n (vs ++ caps)).map fun r => (gdVCp K tm ts ++ r.1, r.2) else none
      | none => none
    | _, _ => none
  | _ => let ts := tmpsOf o.op.operands.toList
    (core E.P rs n (argS tm ts) (argA tm ts) o).map fun r => (gdVCp K tm ts ++ r.1, r.2)
theorem opPlainP_spec {E : Env} {K : Key} {tm : List AV} (hI : Inv tm) {rs : Regs} {n : Nat} {o : Oper} {vc' : List Prop} {av : AV} {e : Eff} (h : opPlainP E K tm rs n o = some (vc', av, e)) :
    ∃ vc, opPlain E tm rs n o = some (vc, av, e) ∧ ((∀ p ∈ K, holds tm p) → (∀ p ∈ vc', p) → ∀ p ∈ vc, p) := by
  have key : ∀ {ts : List Tmp} {r : List Prop}, (∀ p ∈ K, holds tm p) → (∀ p ∈ gdVCp K tm ts ++ r, p) → ∀ p ∈ gdVC tm ts ++ r, p := by
    intro ts r hK hv p hp
    rcases List.mem_append.1 hp with hp | hp
    · exact gdVCp_spec hI hK (fun q hq => hv q (List.mem_append_left _ hq)) p hp
    · exact hv p (List.mem_append_right _ hp)
  unfold opPlainP at h
  unfold opPlain
  split at h
  · rename_i neg x hnt
    unfold nilOut at h
    split at h
    · rename_i vc1 v hr
      rw [Option.map_eq_some_iff] at h
      obtain ⟨r, hc, e1⟩ := h
      cases e1
      obtain ⟨vc, h1, h2⟩ := rawP_spec hI hr
      exact ⟨vc, by simp only [nilOut, h1, hc, Option.map_some], h2⟩
    · cases h
  split at h
  · rename_i c a b ho
    exact pickP_spec hI h
  · rename_i f args ty ho
    simp only at h ⊢
    split at h
    · rename_i fid caps vs h1 h2
      split at h
      · rename_i S hS
        split at h
        · rename_i hc
          rw [Option.map_eq_some_iff] at h
          obtain ⟨⟨r1, r2⟩, hr, e1⟩ := h
          cases e1
          exact ⟨_, by first | rw [hr]; rfl | simp only [hc, if_true, hr, Option.map_some], key⟩
        · cases h
      · cases h
    · cases h
  · rename_i hn1 hn2
    simp only at h
    rw [Option.map_eq_some_iff] at h
    obtain ⟨⟨r1, r2⟩, hr, e1⟩ := h
    cases e1
    exact ⟨gdVC tm (tmpsOf o.op.operands.toList) ++ r1, by simp only [hr, Option.map_some], key⟩
def nk (d : Tmp) : AV → Bool
  | .gd k _ _ _ => k.all fun p => p.1 != d
  | _ => true
/-- The same, without what is told already. -/
def opGP (E : Env) (ops : Array Oper) (tm : List AV) (rs : Regs) (n : Nat) (o : Oper) : Option Out :=
  match opG0 n ops tm rs o (fun K => opPlainP E K tm rs n o) with
  | some (vc, av, e) => if av.ltB (n + 8) && Eff.ltB (n + 8) e && (match o.dst with
      | some d => nk d av && tm.all (nk d)
      | none => true) then some (vc, av, e) else none
  | none => none
theorem guardKey_holds {ops : Array Oper} {tm : List AV} (hI : Inv tm) {j : Nat} {want : Bool} {K : Key} {b w : Bool} (h : guardKey ops tm j want = some (K, b, w)) : b = w ↔ ∀ p ∈ K, holds tm p := by
  unfold guardKey at h
  split at h
  · rename_i t ht
    split at h
    · rename_i b' hv
      cases h
      simp [holds, hv]
    · rename_i k b' w' c hv
      cases h
      have := hI t k b' w' _ hv
      simp only [Bool.and_eq_true, beq_iff_eq, List.mem_append, List.mem_singleton]
      constructor
      · rintro ⟨h1, h2⟩ p (hp | rfl)
        · exact this.1 h1 p hp
        · simp [holds, hv, h1, h2]
      · intro h
        have h2 := h (t, want) (.inr rfl)
        simp only [holds, hv] at h2
        exact h2
    · cases h
  · cases h
theorem opG0_spec {n : Nat} {ops : Array Oper} {tm : List AV} {rs : Regs} (hI : Inv tm) {o : Oper} {f : Key → Option Out} {g : Option Out} {vc' : List Prop} {av : AV} {e : Eff}
    (hfg : ∀ K vc' av e, f K = some (vc', av, e) → ∃ vc, g = some (vc, av, e) ∧ ((∀ p ∈ K, holds tm p) → (∀ p ∈ vc', p) → ∀ p ∈ vc, p)) (h : opG0 n ops tm rs o f = some (vc', av, e)) :
    (∃ vc, opG0 n ops tm rs o (fun _ => g) = some (vc, av, e) ∧ ((∀ p ∈ vc', p) → ∀ p ∈ vc, p)) ∧ (∀ k b w v, av = .gd k b w v → (b = w ↔ ∀ p ∈ k, holds tm p)) := by
  unfold opG0 at h ⊢
  split at h
  · rename_i hg
    split at h
    · rename_i vc1 av1 e1 hf
      have hav : (vc1, av1, e1) = (vc', av, e) ∧ ∀ k b w v, av1 ≠ .gd k b w v := by
        split at h
        · cases h
        · rename_i hne
          exact ⟨by simpa using h, fun k b w v he => hne k b w v he⟩
      obtain ⟨e9, hne⟩ := hav
      cases e9
      obtain ⟨vc, h1, h2⟩ := hfg [] _ _ _ hf
      simp only [h1]
      exact ⟨⟨vc, rfl, h2 (by simp)⟩, fun k b w v he => (hne k b w v he).elim⟩
    · cases h
  · rename_i j want hg
    split at h
    · rename_i K b w hk
      unfold guarded at h
      split at h
      · rename_i r0 vc2 av2 e2 hr
        split at h
        · rename_i ex v hfz
          cases h
          obtain ⟨vc, h1, h2⟩ := hfg K _ _ _ hr
          have hh := guardKey_holds hI hk
          simp only [h1, guarded, hfz]
          refine ⟨⟨_, rfl, fun hv p hp => ?_⟩, fun k b' w' v' he => ?_⟩
          · obtain ⟨q, hq, rfl⟩ := List.mem_map.1 hp
            intro hbw
            have hv' : ∀ q ∈ vc2 ++ ex, q := fun q hq => hv (b = w → q) (List.mem_map.2 ⟨q, hq, rfl⟩) hbw
            rcases List.mem_append.1 hq with hq | hq
            · exact h2 (hh.1 hbw) (fun q hq => hv' q (List.mem_append_left _ hq)) q hq
            · exact hv' q (List.mem_append_right _ hq)
          · cases he
            exact hh
        · cases h
      · cases h
    · cases h
theorem holds_set {tm : List AV} {d : Tmp} {av : AV} {p : Tmp × Bool} (h : p.1 ≠ d) : holds (tm.set d av) p ↔ holds tm p := by
  unfold holds
  rw [List.getElem?_set_ne (fun e => h e.symm)]
theorem opGP_spec {E : Env} {ops : Array Oper} {tm : List AV} (hI : Inv tm) {rs : Regs} {n : Nat} {o : Oper} {vc' : List Prop} {av : AV} {e : Eff} (h : opGP E ops tm rs n o = some (vc', av, e)) :
    (∃ vc, opG E ops tm rs n o = some (vc, av, e) ∧ ((∀ p ∈ vc', p) → ∀ p ∈ vc, p)) ∧ ∀ d, o.dst = some d → Inv (tm.set d av) := by
  unfold opGP at h
  split at h
  · rename_i vc1 av1 e1 h0
    rw [Option.ite_none_right_eq_some] at h
    · obtain ⟨hc, h⟩ := h
      cases h
      simp only [Bool.and_eq_true] at hc
      obtain ⟨⟨c1, c2⟩, c3⟩ := hc
      obtain ⟨⟨vc, h1, h2⟩, h3⟩ := opG0_spec (g := opPlain E tm rs n o) hI (fun K vc' av e hf => opPlainP_spec hI hf) h0
      refine ⟨⟨vc, by simp only [opG, h1, c1, c2, Bool.and_self, if_true], h2⟩, fun d hd => ?_⟩
      rw [hd] at c3
      simp only [Bool.and_eq_true, List.all_eq_true] at c3
      obtain ⟨c3, c4⟩ := c3
      have free : ∀ {k b w v}, nk d (.gd k b w v) = true → ((∀ p ∈ k, holds (tm.set d av) p) ↔ ∀ p ∈ k, holds tm p) := by
        intro k b w v hk
        simp only [nk, List.all_eq_true, bne_iff_ne, ne_eq] at hk
        exact ⟨fun h p hp => (holds_set (hk p hp)).1 (h p hp), fun h p hp => (holds_set (hk p hp)).2 (h p hp)⟩
      intro i k b w v hi
      rw [List.getElem?_set] at hi
      split at hi
      · split at hi
        · simp only [Option.some.injEq] at hi
          subst hi
          rw [free c3]
          exact h3 k b w v rfl
        · cases hi
      · rw [free (c4 _ (List.mem_of_getElem? hi))]
        exact hI i k b w v hi
  · cases h
/-- Guarded values are a region's own: ahead of one they are forgotten. -/
def cleanAV : AV → AV
  | .gd _ _ _ _ => .s .undef
  | v => v
def cleanSt (st : St) : St := { st with tmps := st.tmps.map cleanAV }
theorem cleanSt_inv (st : St) : Inv (cleanSt st).tmps := by
  intro i k b w v h
  simp only [cleanSt, List.getElem?_map, Option.map_eq_some_iff] at h
  obtain ⟨x, _, e⟩ := h
  cases x <;> cases e
theorem RelF.clean {cx : Cx} {φ : Phi} {st : St} {a : Act} {w : World} (R : RelF cx φ st a w) : RelF cx φ (cleanSt st) a w := by
  refine ⟨by simp [cleanSt, R.size], R.df, ?_, R.rg, R.sep, R.fr, R.io, R.kp, R.hB, R.bs⟩
  intro i av hi
  simp only [cleanSt, List.getElem?_map, Option.map_eq_some_iff] at hi
  obtain ⟨x, hx, e⟩ := hi
  have := R.tm i x hx
  cases x <;> cases e <;> first | exact this | trivial
theorem FreshFrom.clean {cx : Cx} {st : St} {n : Nat} (h : FreshFrom cx st n) : FreshFrom cx (cleanSt st) n := by
  intro m hm
  obtain ⟨⟨h1, h2⟩, h3⟩ := h m hm
  refine ⟨⟨h1, fun av hav hmen => ?_⟩, h3⟩
  simp only [cleanSt, List.mem_map] at hav
  obtain ⟨x, hx, rfl⟩ := hav
  refine h2 x hx ?_
  cases x <;> first | exact hmen | exact hmen.elim

/-! ### a region in the text's order -/
def runSeq (E : Env) (ops : Array Oper) : List Oper → Nat → St → Option (List Prop × St)
  | [], _, st => some ([], st)
  | o :: os, n, st => match opGP E ops st.tmps st.regs n o with
    | some (vc, av, e) => forceSt (stepSt st o.dst av e) fun st => match runSeq E ops os (n + 8) st with
      | some (vc', st') => some (vc ++ vc', st')
      | none => none
    | none => none

theorem opG_lt {E : Env} {ops : Array Oper} {tm : List AV} {rs : Regs} {n : Nat} {o : Oper} {vc : List Prop} {av : AV} {e : Eff} (ho : opG E ops tm rs n o = some (vc, av, e)) : av.ltB (n + 8) = true ∧ Eff.ltB (n + 8) e = true := by
  unfold opG at ho
  split at ho
  · split at ho
    · rename_i hc
      cases ho
      simpa using hc
    · cases ho
  · cases ho
theorem runSeq_sound {E : Env} (hE : EnvOK E) {cx : Cx} (hP : cx.P = E.P) {ops : Array Oper} {Q : Exit → Act → World → Prop} : ∀ (os : List Oper) (k n : Nat) (st st' : St) (φ : Phi) (a : Act) (w : World) (vc : List Prop),
    (∀ i, os[i]? = ops[k + i]?) → k + os.length = ops.size → Inv st.tmps → RelF cx φ st a w → FreshFrom cx st n → runSeq E ops os n st = some (vc, st') → (∀ p ∈ vc, p) →
    (∀ a' w' φ', RelF cx φ' st' a' w' → FreshFrom cx st' (n + 8 * os.length) → Q .normal a' w') → wpOps cx.P ops Q (List.range' k os.length) a w
  | [], k, n, st, st', φ, a, w, vc, _, _, _, R, hF, h, _, hQ => by
    simp only [runSeq, Option.some.injEq, Prod.mk.injEq] at h
    obtain ⟨_, rfl⟩ := h
    exact hQ a w φ R (by simpa using hF)
  | o :: os, k, n, st, st', φ, a, w, vc, hos, hlen, hI, R, hF, h, hvc, hQ => by
    simp only [runSeq, forceSt_eq, stepSt_eq] at h
    split at h
    · rename_i vc1 av e ho'
      obtain ⟨⟨vc0, ho, hv0⟩, hI2⟩ := opGP_spec hI ho'
      split at h
      · rename_i vc2 st2 hr
        cases h
        have hk : ops[k]? = some o := by have := hos 0; simpa using this.symm
        simp only [List.length_cons, List.range'_succ]
        rw [wpOps_cons]
        have hlt := opG_lt ho
        have hI3 : Inv (({ st with regs := e.app st.regs } : St).put o.dst av).tmps := by
          cases hd : o.dst with
          | none => exact hI
          | some d => exact hI2 d hd
        refine opG_sound hE hP R (fun j _ => hF (n + j) (by omega)) hk ho (hv0 fun p hp => hvc p (by simp [hp])) (fun a' w' φ' R' => ?_)
        refine runSeq_sound hE hP os (k + 1) (n + 8) _ _ φ' a' w' vc2 (fun i => ?_) (by simp at hlen; omega) hI3 R' (hF.put hlt.1 hlt.2) hr (fun p hp => hvc p (by simp [hp])) (fun a2 w2 φ2 R2 hF2 => hQ a2 w2 φ2 R2 ?_)
        · have := hos (i + 1)
          simp only [List.getElem?_cons_succ] at this
          rw [this]; congr 1; omega
        · rw [List.length_cons]
          have : n + 8 * (os.length + 1) = n + 8 + 8 * os.length := by omega
          rw [this]; exact hF2
      · cases h
    · cases h

end Go.Lift
/- A state made plain: what is not kept is forgotten, the regions are numbered anew. -/
namespace Go.Lift
open Go

def rn (m : List (Nat × Nat)) (r : Nat) : Option Nat :=
  match m with
  | [] => none
  | (o, n) :: m => if o = r then some n else rn m r
def SV.ren (m : List (Nat × Nat)) : SV → SV
  | .sl r => match rn m r with
    | some n => .sl n
    | none => .undef
  | .addr r p => match rn m r with
    | some n => .addr n p
    | none => .undef
  | .valn t x => .val (.ro t) x
  | .nilq _ _ => .undef
  | v => v
def AV.ren (m : List (Nat × Nat)) : AV → AV
  | .s v => .s (v.ren m)
  | .tup vs => .tup (vs.map (SV.ren m))
  | .fn f vs => .fn f (vs.map (SV.ren m))
  | .gd _ _ _ _ => .s .undef
def SV.ids : SV → List Nat
  | .sl r => [r]
  | .addr r _ => [r]
  | _ => []
def AV.ids : AV → List Nat
  | .s v => v.ids
  | .tup vs => vs.flatMap SV.ids
  | .fn _ vs => vs.flatMap SV.ids
  | .gd _ _ _ _ => []
/-- The numbers given anew: those of the parameters stay. -/
def mkRen (nio : Nat) (ids : List Nat) : List (Nat × Nat) :=
  ids.foldl (fun m r => if (rn m r).isSome then m else m ++ [(r, m.length)]) ((List.range nio).map fun r => (r, r))
def renRegs (m : List (Nat × Nat)) (rs : Regs) : Regs :=
  match m with
  | [] => []
  | (o, n) :: m => match look rs o with
    | some g => (n, g) :: renRegs m rs
    | none => renRegs m rs
def renTmps (keep : List Tmp) (m : List (Nat × Nat)) : Nat → List AV → List AV
  | _, [] => []
  | i, v :: vs => (if keep.contains i = true then v.ren m else .s .undef) :: renTmps keep m (i + 1) vs
def keepIds (keep : List Tmp) (tm : List AV) : List Nat := keep.flatMap fun t => match tm[t]? with
  | some v => v.ids
  | none => []
def renOK (nio : Nat) (m : List (Nat × Nat)) : Bool :=
  nodupB (m.map (·.1)) && nodupB (m.map (·.2)) && (List.range nio).all (fun r => decide (rn m r = some r)) && m.all (fun p => decide (p.2 < nio + m.length))
def norm (nio : Nat) (keep : List Tmp) (st : St) : Option St :=
  let m := mkRen nio (keepIds keep st.tmps)
  if renOK nio m = true then some { tmps := renTmps keep m 0 st.tmps, regs := renRegs m st.regs, next := nio + m.length } else none

theorem rn_mem {m : List (Nat × Nat)} {r n : Nat} (h : rn m r = some n) : (r, n) ∈ m := by
  induction m with
  | nil => simp [rn] at h
  | cons p m ih =>
    obtain ⟨o, k⟩ := p
    simp only [rn] at h
    split at h
    · rename_i e; cases h; subst e; exact List.mem_cons_self ..
    · exact List.mem_cons_of_mem _ (ih h)
theorem look_ren {m : List (Nat × Nat)} {rs : Regs} {n : Nat} {g : Reg} (h : look (renRegs m rs) n = some g) : ∃ o, (o, n) ∈ m ∧ look rs o = some g := by
  induction m with
  | nil => simp [renRegs, look] at h
  | cons p m ih =>
    obtain ⟨o, k⟩ := p
    simp only [renRegs] at h
    split at h
    · rename_i g' hl
      simp only [look] at h
      split at h
      · rename_i e; subst e; cases h; exact ⟨o, List.mem_cons_self .., hl⟩
      · obtain ⟨o', h1, h2⟩ := ih h; exact ⟨o', List.mem_cons_of_mem _ h1, h2⟩
    · obtain ⟨o', h1, h2⟩ := ih h; exact ⟨o', List.mem_cons_of_mem _ h1, h2⟩
theorem snd_inj {m : List (Nat × Nat)} (h : (m.map (·.2)).Nodup) {a b n : Nat} (ha : (a, n) ∈ m) (hb : (b, n) ∈ m) : a = b := by
  induction m with
  | nil => cases ha
  | cons p m ih =>
    simp only [List.map_cons, List.nodup_cons] at h
    rcases List.mem_cons.1 ha with ha | ha <;> rcases List.mem_cons.1 hb with hb | hb
    · rw [← ha] at hb; cases hb; rfl
    · exact (h.1 (List.mem_map.2 ⟨_, hb, by rw [← ha]⟩)).elim
    · exact (h.1 (List.mem_map.2 ⟨_, ha, by rw [← hb]⟩)).elim
    · exact ih h.2 ha hb
/-- Where a new number's region lies. -/
def backLoc (m : List (Nat × Nat)) (φ : Phi) (n : Nat) : Loc :=
  match m with
  | [] => φ n
  | (o, k) :: m => if k = n then φ o else backLoc m φ n
theorem backLoc_mem {m : List (Nat × Nat)} (h : (m.map (·.2)).Nodup) {φ : Phi} {o n : Nat} (hm : (o, n) ∈ m) : backLoc m φ n = φ o := by
  induction m with
  | nil => cases hm
  | cons p m ih =>
    obtain ⟨o', k⟩ := p
    simp only [backLoc]
    simp only [List.map_cons, List.nodup_cons] at h
    rcases List.mem_cons.1 hm with hm | hm
    · cases hm; rw [if_pos rfl]
    · have : k ≠ n := fun e => h.1 (List.mem_map.2 ⟨_, hm, e.symm⟩)
      rw [if_neg this]
      exact ih h.2 hm

theorem renTmps_get (keep : List Tmp) (m : List (Nat × Nat)) : ∀ (vs : List AV) (k i : Nat) (v : AV), (renTmps keep m k vs)[i]? = some v → ∃ u, vs[i]? = some u ∧ (v = u.ren m ∨ v = .s .undef)
  | [], _, _, _, h => by simp [renTmps] at h
  | u :: vs, k, i, v, h => by
    cases i with
    | zero =>
      simp only [renTmps, List.getElem?_cons_zero, Option.some.injEq] at h
      refine ⟨u, rfl, ?_⟩
      split at h
      · exact .inl h.symm
      · exact .inr h.symm
    | succ i =>
      simp only [renTmps, List.getElem?_cons_succ] at h
      exact renTmps_get keep m vs (k + 1) i v h
theorem renTmps_length (keep : List Tmp) (m : List (Nat × Nat)) : ∀ (vs : List AV) (k : Nat), (renTmps keep m k vs).length = vs.length
  | [], _ => rfl
  | u :: vs, k => by simp [renTmps, renTmps_length keep m vs]

theorem norm_sound {cx : Cx} {φ : Phi} {st st' : St} {a : Act} {w : World} (R : RelF cx φ st a w) {nio : Nat} (hio : ∀ r l, (r, l) ∈ cx.io → r < nio) {keep : List Tmp} (h : norm nio keep st = some st') :
    (∃ φ', RelF cx φ' st' a w) ∧ FreshFrom cx st' st'.next := by
  simp only [norm] at h
  split at h
  · rename_i hok
    cases h
    generalize mkRen nio (keepIds keep st.tmps) = m at *
    simp only [renOK, Bool.and_eq_true, List.all_eq_true, decide_eq_true_eq, List.mem_range] at hok
    obtain ⟨⟨⟨h1, h2⟩, h3⟩, h4⟩ := hok
    have n1 := nodupB_spec h1
    have n2 := nodupB_spec h2
    let φ' : Phi := ⟨backLoc m φ, φ.base⟩
    have hback : ∀ n g, look (renRegs m st.regs) n = some g → ∃ o, (o, n) ∈ m ∧ look st.regs o = some g ∧ φ' n = φ o := by
      intro n g hl
      obtain ⟨o, h5, h6⟩ := look_ren hl
      exact ⟨o, h5, h6, backLoc_mem n2 h5⟩
    have hm : ∀ b o, okOf st.regs φ b → w.heap[b]? = some o → okOf (renRegs m st.regs) φ' b ∧ w.heap[b]? = some o := by
      intro b o hok hh
      refine ⟨⟨fun n g hl hb => ?_, hok.2⟩, hh⟩
      obtain ⟨o', h5, h6, h7⟩ := hback n g hl
      rw [h7] at hb
      exact hok.1 o' g h6 hb
    have hSV : ∀ x v, SVRel st.regs φ (okOf st.regs φ) w x v → SVRel (renRegs m st.regs) φ' (okOf (renRegs m st.regs) φ') w (x.ren m) v := by
      intro x v hx
      cases x with
      | undef => exact hx
      | val t x => exact VRel.mono hm hx
      | nilsl => exact hx
      | nilp => exact hx
      | valn t x => exact VRel.mono hm hx.1
      | nilq e neg => trivial
      | ra t x =>
        obtain ⟨b, o, cs, ty, fz, e1, e2, e3, e4⟩ := hx
        exact ⟨b, o, cs, ty, fz, e1, (hm _ _ e2 e3).1, e3, Ty.rd_mono hm _ _ _ e4⟩
      | sl r =>
        simp only [SV.ren]
        split
        · rename_i n hn
          intro t xs hl
          obtain ⟨o, h5, h6, h7⟩ := hback n _ hl
          have : o = r := snd_inj n2 h5 (rn_mem hn)
          subst this
          rw [h7]
          exact hx t xs h6
        · trivial
      | addr r p =>
        simp only [SV.ren]
        split
        · rename_i n hn
          intro g hl
          obtain ⟨o, h5, h6, h7⟩ := hback n _ hl
          have : o = r := snd_inj n2 h5 (rn_mem hn)
          subst this
          have h8 := hx g h6
          cases g with
          | row t xs =>
            obtain ⟨i, p', b, g1, g2, g3, g4, g5, g6⟩ := h8
            exact ⟨i, p', b, g1, g2, g3, g4, by rw [h7]; exact g5, by rw [h7]; exact g6⟩
          | box t y =>
            obtain ⟨b, g1, g2, g3⟩ := h8
            exact ⟨b, by rw [h7]; exact g1, g2, g3⟩
          | obox t y =>
            obtain ⟨g1, g2, g3⟩ := h8
            exact ⟨g1, by rw [h7]; exact g2, by rw [h7]; exact g3⟩
        · trivial
    have hAll : ∀ (xs : List SV) (vs : List Value), All2 (SVRel st.regs φ (okOf st.regs φ) w) xs vs → All2 (SVRel (renRegs m st.regs) φ' (okOf (renRegs m st.regs) φ') w) (xs.map (SV.ren m)) vs := by
      intro xs vs h
      induction h with
      | nil => exact .nil
      | cons h _ ih => exact .cons (hSV _ _ h) ih
    refine ⟨⟨φ', ⟨by rw [renTmps_length]; exact R.size, R.df, ?_, ?_, ?_, ?_, ?_, R.kp, R.hB, R.bs⟩⟩, ?_⟩
    · intro i v hv
      obtain ⟨u, hu, hcase⟩ := renTmps_get keep m st.tmps 0 i v hv
      rcases hcase with rfl | rfl
      · have hr := R.tm i u hu
        cases u with
        | s x => exact hSV _ _ hr
        | tup xs => obtain ⟨vs, e, ha⟩ := hr; exact ⟨vs, e, hAll _ _ ha⟩
        | fn f xs => obtain ⟨vs, e, ha⟩ := hr; exact ⟨vs, e, hAll _ _ ha⟩
        | gd k b w' x => trivial
      · trivial
    · intro n g hl
      obtain ⟨o, h5, h6, h7⟩ := hback n g hl
      rw [h7]
      exact Reg.at_mono hm (fun _ _ => rfl) (R.rg o g h6)
    · intro n n' g g' b hl hl' hb hb'
      obtain ⟨o, h5, h6, h7⟩ := hback n g hl
      obtain ⟨o', k5, k6, k7⟩ := hback n' g' hl'
      rw [h7] at hb
      rw [k7] at hb'
      have := R.sep o o' g g' b h6 k6 hb hb'
      subst this
      -- one old number has one new one
      have aux : ∀ (l : List (Nat × Nat)), (l.map (·.1)).Nodup → (o, n) ∈ l → (o, n') ∈ l → n = n' := by
        intro l
        induction l with
        | nil => intro _ h; cases h
        | cons p l ih =>
          intro hnd ha hb
          simp only [List.map_cons, List.nodup_cons] at hnd
          rcases List.mem_cons.1 ha with ha | ha <;> rcases List.mem_cons.1 hb with hb | hb
          · rw [← ha] at hb; cases hb; rfl
          · exact (hnd.1 (List.mem_map.2 ⟨_, hb, by rw [← ha]⟩)).elim
          · exact (hnd.1 (List.mem_map.2 ⟨_, ha, by rw [← hb]⟩)).elim
          · exact ih hnd.2 ha hb
      exact aux m n1 h5 k5
    · intro n g b hl hb
      obtain ⟨o, h5, h6, h7⟩ := hback n g hl
      rw [h7] at hb
      exact R.fr o g b h6 hb
    · intro r l hr hs
      obtain ⟨g, hl⟩ := Option.isSome_iff_exists.1 hs
      obtain ⟨o, h5, h6, h7⟩ := hback r g hl
      have hrr := rn_mem (h3 r (hio r l hr))
      have : o = r := snd_inj n2 h5 hrr
      subst this
      rw [h7]
      exact R.io o l hr (by simp [h6])
    · intro k hk
      have hk' : nio + m.length ≤ k := hk
      refine ⟨⟨?_, ?_⟩, fun l hl => ?_⟩
      · cases hl : look (renRegs m st.regs) k with
        | none => rfl
        | some g =>
          obtain ⟨o, h5, _⟩ := look_ren hl
          have := h4 _ h5
          simp only at this
          omega
      · intro av hav hmen
        obtain ⟨i, hi, e⟩ := List.getElem_of_mem hav
        obtain ⟨u, hu, hcase⟩ := renTmps_get keep m st.tmps 0 i av (by rw [List.getElem?_eq_getElem hi, e])
        have hsv : ∀ x : SV, (x.ren m).mentions k → False := by
          intro x hx
          cases x with
          | sl r =>
            simp only [SV.ren] at hx
            split at hx
            · rename_i n hn
              have := h4 _ (rn_mem hn)
              simp only [SV.mentions] at hx this
              omega
            · exact hx
          | addr r p =>
            simp only [SV.ren] at hx
            split at hx
            · rename_i n hn
              have := h4 _ (rn_mem hn)
              simp only [SV.mentions] at hx this
              omega
            · exact hx
          | _ => exact hx
        rcases hcase with rfl | rfl
        · cases u with
          | s x => exact hsv x hmen
          | tup xs =>
            obtain ⟨v, hv, hm⟩ := hmen
            obtain ⟨x, _, rfl⟩ := List.mem_map.1 hv
            exact hsv x hm
          | fn f xs =>
            obtain ⟨v, hv, hm⟩ := hmen
            obtain ⟨x, _, rfl⟩ := List.mem_map.1 hv
            exact hsv x hm
          | gd k b w' x => exact hmen
        · exact hmen
      · have := hio k l hl
        omega
  · cases h

theorem set_same (tmps : Array Value) (t : Nat) (hlt : t < tmps.size) : tmps.setIfInBounds t (tmps.getD t undef) = tmps := by
  apply Array.ext_getElem?
  intro i
  by_cases h : t = i
  · subst h
    simp [hlt]
  · rw [Array.getElem?_setIfInBounds_ne h]

/-! ### a nil slice that is to be grown -/
def ownNil : List (Tmp × Ty) → St → St
  | [], st => st
  | (t, τ) :: l, st => match st.tmps[t]? with
    | some (.s .nilsl) => ownNil l { tmps := st.tmps.set t (.s (.sl st.next)), regs := upd st.regs st.next (some (.row τ [])), next := st.next + 1 }
    | _ => ownNil l st
theorem ownNil_sound {cx : Cx} {a : Act} {w : World} : ∀ (l : List (Tmp × Ty)) {φ : Phi} {st : St}, RelF cx φ st a w → FreshFrom cx st st.next → (∃ φ', RelF cx φ' (ownNil l st) a w) ∧ FreshFrom cx (ownNil l st) (ownNil l st).next
  | [], φ, st, R, hF => ⟨⟨φ, R⟩, hF⟩
  | (t, τ) :: l, φ, st, R, hF => by
    simp only [ownNil]
    split
    · rename_i ht
      have hv := R.tm t _ ht
      have hV : a.tmps.getD t undef = .slice none 0 0 := hv
      have hf := hF st.next (Nat.le_refl _)
      have R1 := R.step (w' := w) none st.next (.row τ []) ⟨none, 0, 0⟩ (fun b hb => by cases hb) (fun b _ _ => rfl) (.inl hf.1) (fun l0 hl => (hf.2 l0 hl).elim)
        ⟨Nat.le_refl _, rfl⟩ rfl rfl rfl (Nat.le_refl _)
      have R2 := R1.put (dst := some t) (av := .s (.sl st.next)) (v := a.tmps.getD t undef) (by
        intro t' xs' hl
        simp only [without, look_upd, if_true] at hl
        cases hl
        rw [hV]
        simp [setLoc, Loc.addr])
      have ha : a.put (some t) (a.tmps.getD t undef) = a := by
        have hlt : t < a.tmps.size := by rw [R.size]; exact (List.getElem?_eq_some_iff.1 ht).1
        cases a with
        | mk tmps defers =>
          simp only [Act.put]
          congr 1
          exact set_same tmps t hlt
      rw [ha] at R2
      refine ownNil_sound l (φ := setLoc φ st.next ⟨none, 0, 0⟩) ⟨R2.size, R2.df, R2.tm, R2.rg, R2.sep, R2.fr, R2.io, R2.kp, R2.hB, R2.bs⟩ ?_
      intro m hm
      have hm' : st.next + 1 ≤ m := hm
      obtain ⟨⟨h1, h2⟩, h3⟩ := hF m (by omega)
      refine ⟨⟨?_, ?_⟩, h3⟩
      · show look (upd st.regs st.next (some (.row τ []))) m = none
        rw [look_upd, if_neg (by omega)]; exact h1
      · intro x hx hmen
        have hx' : x ∈ st.tmps.set t (.s (.sl st.next)) := hx
        rcases List.mem_or_eq_of_mem_set hx' with hx' | hx'
        · exact h2 x hx' hmen
        · subst hx'
          have : st.next = m := hmen
          omega
    · exact ownNil_sound l R hF

end Go.Lift
/- One operation seen with its own regions alone: what stands beside is kept. -/
namespace Go.Lift
open Go

def SV.allIds : SV → List Nat
  | .sl r => [r]
  | .addr r _ => [r]
  | _ => []
def AV.allIds : AV → List Nat
  | .s v => v.allIds
  | .tup vs => vs.flatMap SV.allIds
  | .fn _ vs => vs.flatMap SV.allIds
  | .gd _ _ _ v => v.allIds
theorem SV.allIds_spec {v : SV} {n : Nat} (h : v.mentions n) : n ∈ v.allIds := by
  cases v <;> simp_all [SV.mentions, SV.allIds]
theorem AV.allIds_spec {v : AV} {n : Nat} (h : v.mentions n) : n ∈ v.allIds := by
  cases v with
  | s v => exact SV.allIds_spec h
  | tup vs => obtain ⟨v, h1, h2⟩ := h; exact List.mem_flatMap.2 ⟨v, h1, SV.allIds_spec h2⟩
  | fn f vs => obtain ⟨v, h1, h2⟩ := h; exact List.mem_flatMap.2 ⟨v, h1, SV.allIds_spec h2⟩
  | gd k b w v => exact SV.allIds_spec h

def restr (ids : List Nat) (rs : Regs) : Regs := ids.filterMap fun r => (look rs r).map fun g => (r, g)
theorem look_restr (ids : List Nat) (rs : Regs) (s : Nat) : look (restr ids rs) s = if s ∈ ids then look rs s else none := by
  induction ids with
  | nil => simp [restr, look]
  | cons r ids ih =>
    have e : restr (r :: ids) rs = match look rs r with
      | some g => (r, g) :: restr ids rs
      | none => restr ids rs := by
      unfold restr
      simp only [List.filterMap_cons]
      cases look rs r <;> rfl
    rw [e]
    cases hl : look rs r with
    | none =>
      simp only [ih, List.mem_cons]
      by_cases h : s = r
      · subst h; simp [hl]
      · simp [h]
    | some g =>
      simp only [look, ih, List.mem_cons]
      by_cases h : r = s
      · subst h; simp [hl]
      · simp [h, Ne.symm h]

/-- What an effect touches. -/
def EffI.touch : EffI → List Nat
  | .set (some o) n _ => [o, n]
  | .set none n _ => [n]
  | .del r => [r]
def touch (e : Eff) : List Nat := e.flatMap EffI.touch
theorem look_effI_not {i : EffI} {rs : Regs} {s : Nat} (h : s ∉ i.touch) : look (i.app rs) s = look rs s := by
  cases i with
  | set old n g =>
    cases old with
    | none =>
      simp only [EffI.touch, List.mem_singleton] at h
      simp only [EffI.app, without, look_upd]
      rw [if_neg (fun e => h e.symm)]
    | some o =>
      simp only [EffI.touch, List.mem_cons, List.not_mem_nil, or_false, not_or] at h
      simp only [EffI.app, look_upd, look_without, Option.some.injEq]
      rw [if_neg (fun e => h.2 e.symm), if_neg (fun e => h.1 e.symm)]
  | del r =>
    simp only [EffI.touch, List.mem_singleton] at h
    simp only [EffI.app, look_drop]
    rw [if_neg (fun e => h e.symm)]
theorem look_app_not : ∀ {e : Eff} {rs : Regs} {s : Nat}, s ∉ touch e → look (e.app rs) s = look rs s
  | [], _, _, _ => rfl
  | i :: e, rs, s, h => by
    simp only [touch, List.flatMap_cons, List.mem_append, not_or] at h
    simp only [Eff.app]
    rw [look_app_not (e := e) h.2, look_effI_not h.1]
theorem look_effI_congr {i : EffI} {rs rs' : Regs} {s : Nat} (h : look rs s = look rs' s) : look (i.app rs) s = look (i.app rs') s := by
  cases i with
  | set old n g => simp only [EffI.app, look_upd, look_without, h]
  | del r => simp only [EffI.app, look_drop, h]
theorem look_app_congr : ∀ {e : Eff} {rs rs' : Regs} {s : Nat}, look rs s = look rs' s → look (e.app rs) s = look (e.app rs') s
  | [], _, _, _, h => h
  | i :: e, rs, rs', s, h => by
    simp only [Eff.app]
    exact look_app_congr (e := e) (look_effI_congr h)

def cxIn (cx : Cx) (φ : Phi) (st : St) (ids : List Nat) (w : World) : Cx :=
  { P := cx.P, B := w.heap.size, w0 := w, io := ids.filterMap fun r => (look st.regs r).map fun _ => (r, φ r), ro := okOf st.regs φ }
theorem cxIn_io {cx : Cx} {φ : Phi} {st : St} {ids : List Nat} {w : World} {r : Nat} {l : Loc} : (r, l) ∈ (cxIn cx φ st ids w).io ↔ r ∈ ids ∧ (∃ g, look st.regs r = some g) ∧ l = φ r := by
  simp only [cxIn, List.mem_filterMap, Option.map_eq_some_iff, Prod.mk.injEq]
  constructor
  · rintro ⟨r', h1, g, h2, rfl, rfl⟩; exact ⟨h1, ⟨g, h2⟩, rfl⟩
  · rintro ⟨h1, ⟨g, h2⟩, rfl⟩; exact ⟨r, h1, g, h2, rfl, rfl⟩
theorem cxIn_own {cx : Cx} {φ : Phi} {st : St} {ids : List Nat} {w : World} {b : Nat} : (cxIn cx φ st ids w).own b ↔ ∃ r g, r ∈ ids ∧ look st.regs r = some g ∧ (φ r).blk = some b := by
  unfold Cx.own
  constructor
  · rintro ⟨r, l, h1, h2⟩
    obtain ⟨h3, ⟨g, h4⟩, rfl⟩ := cxIn_io.1 h1
    exact ⟨r, g, h3, h4, h2⟩
  · rintro ⟨r, g, h1, h2, h3⟩
    exact ⟨r, φ r, cxIn_io.2 ⟨h1, ⟨g, h2⟩, rfl⟩, h3⟩

theorem RelF.into {cx : Cx} {φ : Phi} {st : St} {a : Act} {w : World} (R : RelF cx φ st a w) (ids : List Nat) :
    RelF (cxIn cx φ st ids w) ⟨φ.loc, fun b => w.heap.size ≤ b ∨ (cxIn cx φ st ids w).own b ∨ okOf st.regs φ b⟩ { st with regs := restr ids st.regs } a w := by
  have hlk : ∀ s g, look (restr ids st.regs) s = some g → s ∈ ids ∧ look st.regs s = some g := by
    intro s g h
    rw [look_restr] at h
    split at h
    · rename_i hm; exact ⟨hm, h⟩
    · cases h
  have hm : ∀ b o, okOf st.regs φ b → w.heap[b]? = some o → okOf (restr ids st.regs) ⟨φ.loc, fun b => w.heap.size ≤ b ∨ (cxIn cx φ st ids w).own b ∨ okOf st.regs φ b⟩ b ∧ w.heap[b]? = some o :=
    fun b o h1 h2 => ⟨⟨fun r g hr => h1.1 r g (hlk r g hr).2, .inr (.inr h1)⟩, h2⟩
  refine ⟨R.size, R.df, ?_, ?_, ?_, ?_, ?_, Kept.refl _ _ _, Nat.le_refl _, fun b => Iff.rfl⟩
  · intro i av h
    exact AVRel.mono hm (fun r _ g' hg => ⟨rfl, g', (hlk r g' hg).2, SameKind.refl _⟩) (R.tm i av h)
  · intro r g h
    exact Reg.at_mono hm (fun _ _ => rfl) (R.rg r g (hlk r g h).2)
  · intro r r' g g' b h1 h2 h3 h4
    exact R.sep r r' g g' b (hlk _ _ h1).2 (hlk _ _ h2).2 h3 h4
  · intro r g b h1 h2
    exact .inr (cxIn_own.2 ⟨r, g, (hlk _ _ h1).1, (hlk _ _ h1).2, h2⟩)
  · intro r l h1 _
    exact (cxIn_io.1 h1).2.2.symm

theorem FreshN.into {cx : Cx} {φ : Phi} {st : St} {w : World} {n : Nat} (h : FreshN cx st n) (ids : List Nat) : FreshN (cxIn cx φ st ids w) { st with regs := restr ids st.regs } n := by
  refine ⟨⟨?_, h.1.2⟩, ?_⟩
  · show look (restr ids st.regs) n = none
    rw [look_restr, h.1.1]; split <;> rfl
  · intro l hl
    obtain ⟨_, ⟨g, hg⟩, _⟩ := cxIn_io.1 hl
    rw [h.1.1] at hg; cases hg

theorem All2.both {α β : Type} {R S : α → β → Prop} {as : List α} {bs : List β} (h : All2 R as bs) (k : All2 S as bs) : All2 (fun a b => R a b ∧ S a b) as bs := by
  induction h with
  | nil => exact .nil
  | cons h t ih => cases k with
    | cons h2 t2 => exact .cons ⟨h, h2⟩ (ih t2)

theorem RelF.outof {cx : Cx} {φ φ' : Phi} {st : St} {a : Act} {w w' : World} (R : RelF cx φ st a w) {ids : List Nat} {e : Eff} {n : Nat} (hf : ∀ k, k < 8 → FreshN cx st (n + k))
    (R' : RelF (cxIn cx φ st ids w) φ' { st with regs := e.app (restr ids st.regs) } a w')
    (ht : ∀ r ∈ touch e, (r ∈ ids ∧ (look st.regs r).isSome = true) ∨ (n ≤ r ∧ r < n + 8)) :
    ∃ φ'', RelF cx φ'' { st with regs := e.app st.regs } a w' ∧ ∀ av V, (∀ r ∈ av.allIds, r ∈ ids ∨ (n ≤ r ∧ r < n + 8)) →
      AVRel (e.app (restr ids st.regs)) φ' (okOf (e.app (restr ids st.regs)) φ') w' av V → AVRel (e.app st.regs) φ'' (okOf (e.app st.regs) φ'') w' av V := by
  classical
  let A : Nat → Prop := fun r => (r ∈ ids ∧ (look st.regs r).isSome = true) ∨ (n ≤ r ∧ r < n + 8)
  let φ'' : Phi := ⟨fun r => if A r then φ' r else φ r, φ.base⟩
  have hfr : ∀ r, n ≤ r → r < n + 8 → FreshN cx st r := fun r h1 h2 => by
    have := hf (r - n) (by omega)
    rwa [show n + (r - n) = r from by omega] at this
  have lA : ∀ r, A r → look (e.app st.regs) r = look (e.app (restr ids st.regs)) r := by
    intro r hr
    refine look_app_congr ?_
    rw [look_restr]
    rcases hr with ⟨h1, _⟩ | ⟨h1, h2⟩
    · rw [if_pos h1]
    · rw [(hfr r h1 h2).1.1]; split <;> rfl
  have lN : ∀ r, ¬ A r → look (e.app st.regs) r = look st.regs r := fun r hr => look_app_not fun h => hr (ht r h)
  have lN' : ∀ r, ¬ A r → look (e.app (restr ids st.regs)) r = none := by
    intro r hr
    rw [look_app_not fun h => hr (ht r h), look_restr]
    split
    · rename_i hm
      cases hl : look st.regs r with
      | none => rfl
      | some g => exact (hr (.inl ⟨hm, by rw [hl]; rfl⟩)).elim
    · rfl
  have φA : ∀ r, A r → φ'' r = φ' r := fun r hr => by show (if A r then φ' r else φ r) = φ' r; rw [if_pos hr]
  have φN : ∀ r, ¬ A r → φ'' r = φ r := fun r hr => by show (if A r then φ' r else φ r) = φ r; rw [if_neg hr]
  -- own blocks within
  have ownLive : ∀ b, (cxIn cx φ st ids w).own b → ∃ r g, A r ∧ look st.regs r = some g ∧ (φ r).blk = some b := by
    intro b hb
    obtain ⟨r, g, h1, h2, h3⟩ := cxIn_own.1 hb
    exact ⟨r, g, .inl ⟨h1, by rw [h2]; rfl⟩, h2, h3⟩
  have aLive : ∀ r, A r → (∃ g, look st.regs r = some g) → r ∈ ids := by
    rintro r (⟨h1, _⟩ | ⟨h1, h2⟩) ⟨g, hg⟩
    · exact h1
    · rw [(hfr r h1 h2).1.1] at hg; cases hg
  -- old readable blocks stay
  have hm : ∀ b o, okOf st.regs φ b → w.heap[b]? = some o → okOf (e.app st.regs) φ'' b ∧ w'.heap[b]? = some o := by
    intro b o hok hh
    have hlt : b < w.heap.size := by
      rcases Nat.lt_or_ge b w.heap.size with h1 | h1
      · exact h1
      · simp [Array.getElem?_eq_none h1] at hh
    have hno : ¬ (cxIn cx φ st ids w).own b := fun h => by
      obtain ⟨r, g, _, h2, h3⟩ := ownLive b h
      exact hok.1 r g h2 h3
    refine ⟨⟨fun r g hg hb => ?_, hok.2⟩, (R'.kp.block b hlt hno).trans hh⟩
    by_cases hA : A r
    · rw [φA r hA] at hb
      rw [lA r hA] at hg
      rcases R'.fr r g b hg hb with h1 | h1
      · have h1' : w.heap.size ≤ b := h1
        omega
      · exact hno h1
    · rw [φN r hA] at hb
      rw [lN r hA] at hg
      exact hok.1 r g hg hb
  -- new readable blocks too
  have hm' : ∀ b o, okOf (e.app (restr ids st.regs)) φ' b → w'.heap[b]? = some o → okOf (e.app st.regs) φ'' b ∧ w'.heap[b]? = some o := by
    intro b o hok hh
    refine ⟨⟨fun r g hg hb => ?_, ?_⟩, hh⟩
    · by_cases hA : A r
      · rw [φA r hA] at hb
        rw [lA r hA] at hg
        exact hok.1 r g hg hb
      · rw [φN r hA] at hb
        rw [lN r hA] at hg
        rcases (R'.bs b).1 hok.2 with h1 | h1 | h1
        · have := Reg.at_block (R.rg r g hg) hb
          have h1' : w.heap.size ≤ b := h1
          omega
        · obtain ⟨r2, g2, h2, h3, h4⟩ := ownLive b h1
          have := R.sep r r2 g g2 b hg h3 hb h4
          subst this
          exact hA h2
        · exact h1.1 r g hg hb
    · show φ.base b
      rcases (R'.bs b).1 hok.2 with h1 | h1 | h1
      · exact (R.bs b).2 (.inl (Nat.le_trans R.hB h1))
      · obtain ⟨r2, g2, h2, h3, h4⟩ := ownLive b h1
        exact (R.bs b).2 ((R.fr r2 g2 b h3 h4).elim .inl fun h => .inr (.inl h))
      · exact h1.2
  -- a simple value that told on both sides
  have hsv : ∀ x V, (∀ r, x.mentions r → A r → n ≤ r → False ∨ True) → SVRel st.regs φ (okOf st.regs φ) w x V → SVRel (e.app (restr ids st.regs)) φ' (okOf (e.app (restr ids st.regs)) φ') w' x V → SVRel (e.app st.regs) φ'' (okOf (e.app st.regs) φ'') w' x V := by
    intro x V _ h1 h2
    cases x with
    | undef => trivial
    | val t x => exact VRel.mono hm h1
    | nilsl => exact h1
    | nilp => exact h1
    | valn t x => exact ⟨VRel.mono hm h1.1, h1.2⟩
    | nilq e neg => exact h1
    | ra t x =>
      obtain ⟨b, o, cs, ty, fz, e1, e2, e3, e4⟩ := h1
      exact ⟨b, o, cs, ty, fz, e1, (hm _ _ e2 e3).1, (hm _ _ e2 e3).2, Ty.rd_mono hm _ _ _ e4⟩
    | sl r =>
      intro t xs hg
      by_cases hA : A r
      · rw [φA r hA]; rw [lA r hA] at hg; exact h2 t xs hg
      · rw [φN r hA]; rw [lN r hA] at hg; exact h1 t xs hg
    | addr r p =>
      intro g hg
      by_cases hA : A r
      · rw [lA r hA] at hg
        have := h2 g hg
        unfold addrRel at this ⊢
        rw [φA r hA]; exact this
      · rw [lN r hA] at hg
        have := h1 g hg
        unfold addrRel at this ⊢
        rw [φN r hA]; exact this
  refine ⟨φ'', ⟨R.size, R.df, ?_, ?_, ?_, ?_, ?_, ?_, ?_, R.bs⟩, ?_⟩
  · intro i av h
    have h1 := R.tm i av h
    have h2 := R'.tm i av h
    cases av with
    | s x => exact hsv x _ (fun _ _ _ _ => .inr trivial) h1 h2
    | tup xs =>
      obtain ⟨vs, e1, k1⟩ := h1
      obtain ⟨vs', e2, k2⟩ := h2
      rw [e1] at e2
      cases e2
      exact ⟨vs, e1, (k1.both k2).imp fun x V _ hx => hsv x V (fun _ _ _ _ => .inr trivial) hx.1 hx.2⟩
    | fn f xs =>
      obtain ⟨vs, e1, k1⟩ := h1
      obtain ⟨vs', e2, k2⟩ := h2
      rw [e1] at e2
      cases e2
      exact ⟨vs, e1, (k1.both k2).imp fun x V _ hx => hsv x V (fun _ _ _ _ => .inr trivial) hx.1 hx.2⟩
    | gd k b want x => exact ⟨fun hb => hsv x _ (fun _ _ _ _ => .inr trivial) (h1.1 hb) (h2.1 hb), h1.2⟩
  · intro r g hg
    by_cases hA : A r
    · have hg' : look (e.app st.regs) r = some g := hg
      rw [lA r hA] at hg'
      rw [φA r hA]
      exact Reg.at_mono hm' (fun _ _ => rfl) (R'.rg r g hg')
    · have hg' : look (e.app st.regs) r = some g := hg
      rw [lN r hA] at hg'
      rw [φN r hA]
      refine Reg.at_mono hm (fun b hb => ?_) (R.rg r g hg')
      refine R'.kp.block b (Reg.at_block (R.rg r g hg') hb) fun ho => ?_
      obtain ⟨r2, g2, h2, h3, h4⟩ := ownLive b ho
      have := R.sep r r2 g g2 b hg' h3 hb h4
      subst this
      exact hA h2
  · intro r r' g g' b h1 h2 h3 h4
    have h1' : look (e.app st.regs) r = some g := h1
    have h2' : look (e.app st.regs) r' = some g' := h2
    have mixed : ∀ r r' g g', A r → ¬ A r' → look (e.app st.regs) r = some g → look (e.app st.regs) r' = some g' → (φ'' r).blk = some b → (φ'' r').blk = some b → False := by
      intro r r' g g' hA hN k1 k2 k3 k4
      rw [lA r hA] at k1
      rw [lN r' hN] at k2
      rw [φA r hA] at k3
      rw [φN r' hN] at k4
      have hb := Reg.at_block (R.rg r' g' k2) k4
      rcases R'.fr r g b k1 k3 with h5 | h5
      · have h5' : w.heap.size ≤ b := h5
        omega
      · obtain ⟨r2, g2, h6, h7, h8⟩ := ownLive b h5
        have := R.sep r' r2 g' g2 b k2 h7 k4 h8
        subst this
        exact hN h6
    by_cases hA : A r
    · by_cases hA' : A r'
      · rw [lA r hA] at h1'
        rw [lA r' hA'] at h2'
        rw [φA r hA] at h3
        rw [φA r' hA'] at h4
        exact R'.sep r r' g g' b h1' h2' h3 h4
      · exact (mixed r r' g g' hA hA' h1' h2' h3 h4).elim
    · by_cases hA' : A r'
      · exact (mixed r' r g' g hA' hA h2' h1' h4 h3).elim
      · rw [lN r hA] at h1'
        rw [lN r' hA'] at h2'
        rw [φN r hA] at h3
        rw [φN r' hA'] at h4
        exact R.sep r r' g g' b h1' h2' h3 h4
  · intro r g b h1 h2
    have h1' : look (e.app st.regs) r = some g := h1
    by_cases hA : A r
    · rw [lA r hA] at h1'
      rw [φA r hA] at h2
      rcases R'.fr r g b h1' h2 with h5 | h5
      · exact .inl (Nat.le_trans R.hB h5)
      · obtain ⟨r2, g2, h6, h7, h8⟩ := ownLive b h5
        exact R.fr r2 g2 b h7 h8
    · rw [lN r hA] at h1'
      rw [φN r hA] at h2
      exact R.fr r g b h1' h2
  · intro r l h1 h2
    have h2' : (look (e.app st.regs) r).isSome = true := h2
    by_cases hA : A r
    · rw [φA r hA]
      rw [lA r hA] at h2'
      rcases hA with ⟨h3, h4⟩ | ⟨h3, h4⟩
      · obtain ⟨g, hg⟩ := Option.isSome_iff_exists.1 h4
        rw [R'.io r (φ r) (cxIn_io.2 ⟨h3, ⟨g, hg⟩, rfl⟩) h2']
        exact R.io r l h1 h4
      · exact ((hfr r h3 h4).2 l h1).elim
    · rw [φN r hA]
      rw [lN r hA] at h2'
      exact R.io r l h1 h2'
  · have hk := R'.kp
    refine ⟨hk.os.trans R.kp.os, hk.tape.trans R.kp.tape, hk.output.trans R.kp.output, Nat.le_trans R.kp.size hk.size, fun k h1 h2 => ?_⟩
    refine (hk.block k (Nat.lt_of_lt_of_le h1 R.hB) fun ho => ?_).trans (R.kp.block k h1 h2)
    obtain ⟨r2, g2, _, h7, h8⟩ := ownLive k ho
    rcases R.fr r2 g2 k h7 h8 with h9 | h9
    · omega
    · exact h2 h9
  · exact Nat.le_trans R.hB R'.kp.size
  · intro av V hids hav
    refine AVRel.mono hm' (fun r hr g' hg => ?_) hav
    have hor := hids r (AV.allIds_spec hr)
    by_cases hA : A r
    · exact ⟨φA r hA, g', by rw [← lA r hA]; exact hg, SameKind.refl _⟩
    · exfalso
      rcases hor with h1 | h1
      · rw [lN r hA] at hg
        exact hA (.inl ⟨h1, by rw [hg]; rfl⟩)
      · exact hA (.inr h1)

end Go.Lift
