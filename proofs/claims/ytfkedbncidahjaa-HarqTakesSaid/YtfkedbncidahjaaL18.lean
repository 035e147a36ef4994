/- One operation of a region, with its guard, calls among them; a region in the text's order. -/
import Derived.Test.YtfkedbncidahjaaL17b
set_option linter.unusedVariables false
set_option linter.unusedSimpArgs false
namespace Go.Lift
open Go

structure Env where
  P : Program
  sum : FuncId → Option Summ
  /-- how many regions came in -/
  nio : Nat
  /-- what lives at the head of a loop, by the number of the block round it; which slices are to be grown there -/
  head : Nat → List Tmp × List (Tmp × Ty)
  /-- what lives behind a block -/
  after : Nat → Option (List Tmp)
  /-- what lives where a loop is left -/
  leave : Nat → List Tmp
  /-- the loops, by the same numbers -/
  loops : Nat → Option Loop
def EnvOK (E : Env) : Prop := (∀ f S, E.sum f = some S → SumOK E.P f S) ∧ E.P.follows .mixedOrders = true

def tmpsOf (l : List Operand) : List Tmp := l.filterMap fun
  | .tmp t => some t
  | _ => none

/-- An operand's value; t must be one of ts. -/
def argA (tm : List AV) (ts : List Tmp) : Operand → Option AV
  | .tmp t => if ts.contains t = true then (match tm[t]? with
      | some (.gd _ _ v) => some (.s v)
      | r => r) else none
  | .const v => (constAV v).map AV.s
  | .func f => some (.fn f [])
  | .global _ => none
def argS (tm : List AV) (ts : List Tmp) (x : Operand) : Option SV :=
  match argA tm ts x with
  | some (.s v) => some v
  | _ => none
def gdOf (tm : List AV) (t : Tmp) : List Prop :=
  match tm[t]? with
  | some (.gd b w _) => [b = w]
  | _ => []
def gdVC (tm : List AV) (ts : List Tmp) : List Prop := ts.flatMap (gdOf tm)

theorem argA_sound {cx : Cx} {φ : Phi} {st : St} {a : Act} {w : World} (R : RelF cx φ st a w) {ts : List Tmp} (hvc : ∀ p ∈ gdVC st.tmps ts, p) {x : Operand} {v : AV} (h : argA st.tmps ts x = some v) :
    AVRel st.regs φ (okOf st.regs φ) w v (a.eval x) := by
  cases x with
  | tmp t =>
    simp only [argA] at h
    split at h
    · rename_i hm
      cases hv : st.tmps[t]? with
      | none => rw [hv] at h; cases h
      | some av =>
        rw [hv] at h
        have hr := R.tm t av hv
        cases av with
        | gd b w' s =>
          simp only [Option.some.injEq] at h
          subst h
          have : b = w' := hvc _ (List.mem_flatMap.2 ⟨t, by simpa using hm, by simp [gdOf, hv]⟩)
          exact hr this
        | s x => cases h; exact hr
        | tup x => cases h; exact hr
        | fn f x => cases h; exact hr
    · cases h
  | const c =>
    simp only [argA, Option.map_eq_some_iff] at h
    obtain ⟨s, hs, rfl⟩ := h
    exact constAV_sound hs
  | global g => simp [argA] at h
  | func f => simp only [argA, Option.some.injEq] at h; subst h; exact ⟨#[], rfl, .nil⟩
theorem argS_sound {cx : Cx} {φ : Phi} {st : St} {a : Act} {w : World} (R : RelF cx φ st a w) {ts : List Tmp} (hvc : ∀ p ∈ gdVC st.tmps ts, p) {x : Operand} {v : SV} (h : argS st.tmps ts x = some v) :
    SVRel st.regs φ (okOf st.regs φ) w v (a.eval x) := by
  unfold argS at h
  split at h
  · rename_i s hs
    cases h
    exact argA_sound R hvc hs
  · cases h

/-- May it be called? -/
def callable (P : Program) (f : FuncId) : Bool :=
  match P.funcs[f]? with
  | some fn => !(fn.name == "runtime.NumGoroutine") && fn.body.isSome
  | none => false

def rawV (tm : List AV) : Operand → Option (List Prop × SV)
  | .tmp t => match tm[t]? with
    | some (.s v) => some ([], v)
    | some (.gd b w v) => some ([b = w], v)
    | _ => none
  | .const v => (constAV v).map fun s => ([], s)
  | _ => none
theorem rawV_sound {cx : Cx} {φ : Phi} {st : St} {a : Act} {w : World} (R : RelF cx φ st a w) {x : Operand} {vc : List Prop} {v : SV} (h : rawV st.tmps x = some (vc, v)) (hvc : ∀ p ∈ vc, p) :
    SVRel st.regs φ (okOf st.regs φ) w v (a.eval x) := by
  unfold rawV at h
  split at h
  · rename_i t
    split at h
    · rename_i hv; cases h; exact R.tm t _ hv
    · rename_i hv; cases h; exact R.tm t _ hv (hvc _ (by simp))
    · cases h
  · simp only [Option.map_eq_some_iff] at h
    obtain ⟨s, hs, e⟩ := h
    cases e
    exact constAV_sound hs
  · cases h

def pickV (tm : List AV) (c a b : Operand) : Option Out :=
  match rawV tm c, rawV tm a, rawV tm b with
  | some (vc0, .val .bool c), some (vc1, .val t x), some (vc2, .val u y) => match castTy u t y with
    | some y => some (vc0 ++ vc1.map (fun p => c = true → p) ++ vc2.map (fun p => c = false → p), .s (.val t (if c = true then x else y)), [])
    | none => none
  | _, _, _ => none

def opPlain (E : Env) (tm : List AV) (rs : Regs) (n : Nat) (o : Oper) : Option Out :=
  match o.op with
  | .pick c a b => pickV tm c a b
  | .call { callee := .value f, args := args, argTypes := _ } =>
    let ts := tmpsOf (f :: args.toList)
    match argA tm ts f, mapArgs (argS tm ts) args.toList with
    | some (.fn fid caps), some vs => match E.sum fid with
      | some S => if callable E.P fid = true then (callV S rs n (vs ++ caps)).map fun r => (gdVC tm ts ++ r.1, r.2) else none
      | none => none
    | _, _ => none
  | _ => let ts := tmpsOf o.op.operands.toList
    (core E.P rs n (argS tm ts) (argA tm ts) o).map fun r => (gdVC tm ts ++ r.1, r.2)

/-- What an operation comes to, whatever stands behind it. -/
def Does (cx : Cx) (st : St) (a : Act) (w : World) (o : Oper) (av : AV) (e : Eff) : Prop :=
  ∀ (next : Act → World → Prop) (Q : Exit → Act → World → Prop),
    (∀ V w' φ', RelF cx φ' { st with regs := e.app st.regs } a w' → AVRel (e.app st.regs) φ' (okOf (e.app st.regs) φ') w' av V → next (a.put o.dst V) w') → o.wp cx.P a w next Q

theorem Does.of_tells {cx : Cx} {st : St} {a : Act} {w : World} {o : Oper} {av : AV} {e : Eff} (h : Tells cx st a w o av e) : Does cx st a w o av e := by
  obtain ⟨r, V, w', φ', h1, h2, h3, h4⟩ := h
  intro next Q hn
  unfold Oper.wp
  rw [h1]
  rcases h2 with rfl | ⟨rfl, rfl⟩
  · exact hn _ _ _ h3 h4
  · exact hn _ _ _ h3 h4

theorem opPlain_sound {E : Env} (hE : EnvOK E) {cx : Cx} (hP : cx.P = E.P) {φ : Phi} {st : St} {a : Act} {w : World} (R : RelF cx φ st a w) {n : Nat} (hf : ∀ k, k < 8 → FreshN cx st (n + k)) {o : Oper} {vc : List Prop} {av : AV} {e : Eff}
    (h : opPlain E st.tmps st.regs n o = some (vc, av, e)) (hvc : ∀ p ∈ vc, p) : Does cx st a w o av e := by
  unfold opPlain at h
  split at h
  · rename_i c x y ho
    unfold pickV at h
    split at h
    · rename_i vc0 c' vc1 t x' vc2 u y' hc hx hy
      split at h
      · rename_i y2 hcast
        cases h
        obtain ⟨e1, e2⟩ := castTy_some hcast
        subst e1; subst e2
        have hC := rawV_sound R hc (fun p hp => hvc p (by simp [hp]))
        have eC := VRel.bool_eq hC
        apply Does.of_tells
        cases hb : c' with
        | true =>
          rw [hb] at eC
          have hX := rawV_sound R hx (fun p hp => hvc (c' = true → p) (List.mem_append_left _ (List.mem_append_right _ (List.mem_map.2 ⟨p, hp, rfl⟩))) hb)
          exact ⟨.value (a.eval x), a.eval x, w, φ, by simp [execOp, ho, eC, asBool], .inl rfl, R, by simp only [if_true]; exact hX⟩
        | false =>
          rw [hb] at eC
          have hY := rawV_sound R hy (fun p hp => hvc (c' = false → p) (List.mem_append_right _ (List.mem_map.2 ⟨p, hp, rfl⟩)) hb)
          exact ⟨.value (a.eval y), a.eval y, w, φ, by simp [execOp, ho, eC, asBool], .inl rfl, R, by simp only [Bool.false_eq_true, if_false]; exact hY⟩
      · cases h
    · cases h
  · rename_i f args ty ho
    simp only at h
    split at h
    · rename_i fid caps vs hfn hvs
      split at h
      · rename_i S hS
        split at h
        · rename_i hcall
          rw [Option.map_eq_some_iff] at h
          obtain ⟨⟨vc', av', e'⟩, hcv, e1⟩ := h
          cases e1
          have hgd : ∀ p ∈ gdVC st.tmps (tmpsOf (f :: args.toList)), p := fun p hp => hvc p (by simp [hp])
          have hfn' := argA_sound R hgd hfn
          obtain ⟨cs, hcs, hcaps⟩ := hfn'
          have hargs := mapArgs_sound (S := SVRel st.regs φ (okOf st.regs φ) w) (ev := a.eval) (fun x v hx => argS_sound R hgd hx) _ _ hvs
          have hall : All2 (SVRel st.regs φ (okOf st.regs φ) w) (vs ++ caps) (args.toList.map a.eval ++ cs.toList) := by
            clear hcv hvs
            generalize args.toList.map a.eval = As at hargs
            induction hargs with
            | nil => exact hcaps
            | cons h1 _ ih => exact .cons h1 ih
          have hC := callV_sound R (f := fid) (by rw [hP]; exact hE.1 fid S hS) hf hcv (fun p hp => hvc p (by simp [hp])) hall
          have hrun : (execOp a.eval o).run cx.P w = .ok (.enter fid (args.map a.eval ++ cs)) w := by
            unfold callable at hcall
            rw [← hP] at hcall
            cases hfs : cx.P.funcs[fid]? with
            | none => simp [hfs] at hcall
            | some fn =>
              simp only [hfs, Bool.and_eq_true, Bool.not_eq_true'] at hcall
              obtain ⟨hc1, hc2⟩ := hcall
              have hbn : ¬ fn.body = none := by
                intro hb; rw [hb] at hc2; cases hc2
              have hc1' : ¬ fn.name = "runtime.NumGoroutine" := by simpa using hc1
              simp [execOp, ho, resolve, hcs, Deferred.ofValue, invoke, callFunc, hfs, hc1', hbn]
          intro next Q hn
          unfold Oper.wp
          rw [hrun, Oper.upon_enter]
          have : (args.map a.eval ++ cs) = (args.toList.map a.eval ++ cs.toList).toArray := by
            apply Array.ext'
            simp
          rw [this]
          refine hC.mono ?_
          rintro e' w' ⟨V, φ', rfl, h3, h4⟩
          exact hn V w' φ' h3 h4
        · cases h
      · cases h
    · cases h
  · simp only at h
    rw [Option.map_eq_some_iff] at h
    obtain ⟨⟨vc', av', e'⟩, hcv, e1⟩ := h
    cases e1
    have hgd : ∀ p ∈ gdVC st.tmps (tmpsOf o.op.operands.toList), p := fun p hp => hvc p (by simp [hp])
    have hf0 := hf 0 (by omega)
    rw [Nat.add_zero] at hf0
    rw [← hP] at hcv
    exact Does.of_tells (core_sound R hf0 hcv (fun p hp => hvc p (by simp [hp])) (fun x v hx => argS_sound R hgd hx) (fun x v hx => argA_sound R hgd hx))

/-! ### what is named stays below a number -/
def SV.ltB (n : Nat) : SV → Bool
  | .sl r => decide (r < n)
  | .addr r _ => decide (r < n)
  | _ => true
def AV.ltB (n : Nat) : AV → Bool
  | .s v => v.ltB n
  | .tup vs => vs.all (SV.ltB n)
  | .fn _ vs => vs.all (SV.ltB n)
  | .gd _ _ v => v.ltB n
theorem SV.ltB_spec {n : Nat} {v : SV} (h : v.ltB n = true) {m : Nat} (hm : v.mentions m) : m < n := by
  cases v <;> simp [SV.ltB, SV.mentions] at h hm
  · omega
  · omega
theorem AV.ltB_spec {n : Nat} {v : AV} (h : v.ltB n = true) {m : Nat} (hm : v.mentions m) : m < n := by
  cases v with
  | s v => exact SV.ltB_spec h hm
  | tup vs => obtain ⟨v, hv, hm⟩ := hm; exact SV.ltB_spec (List.all_eq_true.1 h v hv) hm
  | fn f vs => obtain ⟨v, hv, hm⟩ := hm; exact SV.ltB_spec (List.all_eq_true.1 h v hv) hm
  | gd b w v => exact SV.ltB_spec h hm
def EffI.ltB (n : Nat) : EffI → Bool
  | .set _ m _ => decide (m < n)
  | .del _ => true
def Eff.ltB (n : Nat) (e : Eff) : Bool := e.all (EffI.ltB n)
theorem look_app_lt {n : Nat} : ∀ {e : Eff} {rs : Regs} {m : Nat}, Eff.ltB n e = true → n ≤ m → look rs m = none → look (e.app rs) m = none
  | [], _, _, _, _, h => h
  | i :: e, rs, m, hl, hm, h => by
    simp only [Eff.ltB, List.all_cons, Bool.and_eq_true] at hl
    refine look_app_lt (e := e) hl.2 hm ?_
    cases i with
    | set old k g =>
      simp only [EffI.ltB, decide_eq_true_eq] at hl
      simp only [EffI.app, look_upd]
      rw [if_neg (by omega), look_without]
      split
      · rfl
      · exact h
    | del r =>
      simp only [EffI.app, look_drop]
      split
      · rfl
      · exact h

def FreshFrom (cx : Cx) (st : St) (n : Nat) : Prop := ∀ m, n ≤ m → FreshN cx st m

theorem FreshFrom.put {cx : Cx} {st : St} {n : Nat} (h : FreshFrom cx st n) {dst : Option Tmp} {av : AV} {e : Eff} (ha : av.ltB (n + 8) = true) (he : Eff.ltB (n + 8) e = true) :
    FreshFrom cx (({ st with regs := e.app st.regs } : St).put dst av) (n + 8) := by
  intro m hm
  obtain ⟨⟨h1, h2⟩, h3⟩ := h m (by omega)
  refine ⟨⟨?_, ?_⟩, h3⟩
  · rw [St.put_regs]; exact look_app_lt he hm h1
  · intro x hx hmen
    cases dst with
    | none => exact h2 x hx hmen
    | some d =>
      simp only [St.put] at hx
      rcases List.mem_or_eq_of_mem_set hx with hx | hx
      · exact h2 x hx hmen
      · subst hx
        have := AV.ltB_spec ha hmen
        omega

def guardOf (ops : Array Oper) (tm : List AV) (j : Nat) : Option Bool :=
  match (ops[j]?).bind (·.dst) with
  | some t => match tm[t]? with
    | some (.s (.val .bool b)) => some b
    | _ => none
  | none => none

/-- An operation with its guard. -/
def opG (E : Env) (ops : Array Oper) (tm : List AV) (rs : Regs) (n : Nat) (o : Oper) : Option Out :=
  match (match o.guard with
    | none => opPlain E tm rs n o
    | some (j, want) => match guardOf ops tm j with
      | some b => match opPlain E tm rs n o with
        | some (vc, .s v, []) => some (vc.map (fun p => b = want → p), .gd b want v, [])
        | _ => none
      | none => none) with
  | some (vc, av, e) => if av.ltB (n + 8) && Eff.ltB (n + 8) e then some (vc, av, e) else none
  | none => none

/-- What an operation of a region comes to. -/
theorem opG_does {E : Env} (hE : EnvOK E) {cx : Cx} (hP : cx.P = E.P) {φ : Phi} {st : St} {a : Act} {w : World} (R : RelF cx φ st a w) {n : Nat} (hf : ∀ k, k < 8 → FreshN cx st (n + k)) {ops : Array Oper} {i : Nat} {o : Oper} (hi : ops[i]? = some o) {vc : List Prop} {av : AV} {e : Eff}
    (h : opG E ops st.tmps st.regs n o = some (vc, av, e)) (hvc : ∀ p ∈ vc, p) {Q : Exit → Act → World → Prop} {K : Act → World → Prop}
    (hput : ∀ V w' φ', RelF cx φ' { st with regs := e.app st.regs } a w' → AVRel (e.app st.regs) φ' (okOf (e.app st.regs) φ') w' av V → K (a.put o.dst V) w') : wpOp cx.P ops Q i K a w := by
  unfold opG at h
  split at h
  · rename_i vc' av' e' hr
    split at h
    · cases h
      unfold wpOp
      simp only [hi]
      split at hr
      · rename_i hg
        have hw : Region.wanted o (yielded ops a.tmps) = true := by simp [Region.wanted, hg]
        rw [if_pos hw]
        exact .inl (opPlain_sound hE hP R hf hr hvc K Q hput)
      · rename_i j want hg
        split at hr
        · rename_i b hb
          split at hr
          · rename_i vc0 v hp
            cases hr
            -- the guard as the machine has it
            have hy : yielded ops a.tmps j = some b := by
              unfold guardOf at hb
              unfold yielded
              cases hd : (ops[j]?).bind (·.dst) with
              | none => rw [hd] at hb; cases hb
              | some t =>
                rw [hd] at hb
                simp only at hb
                split at hb
                · rename_i b' hv
                  cases hb
                  have hr := R.tm t _ hv
                  have hb2 : a.tmps.getD t undef = .bool b := VRel.bool_eq hr
                  have hlt : t < a.tmps.size := by
                    rw [R.size]
                    exact (List.getElem?_eq_some_iff.1 hv).1
                  have : a.tmps[t]? = some (.bool b) := by
                    rw [Array.getElem?_eq_getElem hlt]
                    have h9 : a.tmps.getD t undef = a.tmps[t] := by simp [hlt]
                    rw [← h9, hb2]
                  simp [this]
                · cases hb
            by_cases hbw : b = want
            · have hw : Region.wanted o (yielded ops a.tmps) = true := by simp [Region.wanted, hg, hy, hbw]
              rw [if_pos hw]
              refine .inl (opPlain_sound hE hP R hf hp (fun p hp => hvc (b = want → p) (List.mem_map.2 ⟨p, hp, rfl⟩) hbw) K Q (fun V w' φ' h1 h2 => hput V w' φ' h1 (fun _ => h2)))
            · have hw : ¬ Region.wanted o (yielded ops a.tmps) = true := by simp [Region.wanted, hg, hy, hbw]
              rw [if_neg hw]
              exact hput undef w φ R (fun h => (hbw h).elim)
          · cases hr
        · cases hr
    · cases h
  · cases h

/-- The same, the temporary written. -/
theorem opG_sound {E : Env} (hE : EnvOK E) {cx : Cx} (hP : cx.P = E.P) {φ : Phi} {st : St} {a : Act} {w : World} (R : RelF cx φ st a w) {n : Nat} (hf : ∀ k, k < 8 → FreshN cx st (n + k)) {ops : Array Oper} {i : Nat} {o : Oper} (hi : ops[i]? = some o) {vc : List Prop} {av : AV} {e : Eff}
    (h : opG E ops st.tmps st.regs n o = some (vc, av, e)) (hvc : ∀ p ∈ vc, p) {Q : Exit → Act → World → Prop} {K : Act → World → Prop}
    (hK : ∀ a' w' φ', RelF cx φ' (({ st with regs := e.app st.regs } : St).put o.dst av) a' w' → K a' w') : wpOp cx.P ops Q i K a w := by
  exact opG_does hE hP R hf hi h hvc (fun V w' φ' h1 h2 => hK _ _ _ (h1.put h2))

/-! ### a state written out (for the kernel's sake) -/
def forceSV {β : Sort _} (v : SV) (k : SV → β) : β :=
  match v with
  | .undef => k .undef
  | .val t x => k (.val t x)
  | .sl r => k (.sl r)
  | .addr r p => k (.addr r p)
  | .ra t x => k (.ra t x)
  | .nilsl => k .nilsl
  | .nilp => k .nilp
def forceSVs {β : Sort _} : List SV → (List SV → β) → β
  | [], k => k []
  | v :: vs, k => forceSV v fun v => forceSVs vs fun vs => k (v :: vs)
def forceAV {β : Sort _} (v : AV) (k : AV → β) : β :=
  match v with
  | .s x => forceSV x fun x => k (.s x)
  | .tup vs => forceSVs vs fun vs => k (.tup vs)
  | .fn f vs => forceSVs vs fun vs => k (.fn f vs)
  | .gd b w x => forceSV x fun x => k (.gd b w x)
def forceTm {β : Sort _} : List AV → (List AV → β) → β
  | [], k => k []
  | v :: vs, k => forceAV v fun v => forceTm vs fun vs => k (v :: vs)
def forceReg {β : Sort _} (g : Reg) (k : Reg → β) : β :=
  match g with
  | .row t xs => k (.row t xs)
  | .box t x => k (.box t x)
  | .obox t x => k (.obox t x)
def forceRegs {β : Sort _} : Regs → (Regs → β) → β
  | [], k => k []
  | (r, g) :: rs, k => forceReg g fun g => forceRegs rs fun rs => k ((r, g) :: rs)
def forceSt {β : Sort _} (st : St) (k : St → β) : β :=
  match st with
  | ⟨tm, rs, n⟩ => forceTm tm fun tm => forceRegs rs fun rs => k ⟨tm, rs, n⟩
def stepSt (st : St) (dst : Option Tmp) (av : AV) (e : Eff) : St :=
  match st, dst with
  | ⟨tm, rs, n⟩, some d => ⟨tm.set d av, e.app rs, n⟩
  | ⟨tm, rs, n⟩, none => ⟨tm, e.app rs, n⟩
theorem stepSt_eq (st : St) (dst : Option Tmp) (av : AV) (e : Eff) : stepSt st dst av e = ({ st with regs := e.app st.regs } : St).put dst av := by
  cases dst <;> rfl
def bumpSt (st st' : St) (k : Nat) : St :=
  match st, st' with
  | ⟨_, _, n⟩, ⟨tm, rs, _⟩ => ⟨tm, rs, n + k⟩
theorem bumpSt_eq (st st' : St) (k : Nat) : bumpSt st st' k = { st' with next := st.next + k } := rfl
theorem forceSV_eq {β : Sort _} (v : SV) (k : SV → β) : forceSV v k = k v := by cases v <;> rfl
theorem forceSVs_eq {β : Sort _} : ∀ (vs : List SV) (k : List SV → β), forceSVs vs k = k vs
  | [], _ => rfl
  | v :: vs, k => by simp only [forceSVs, forceSV_eq, forceSVs_eq vs]
theorem forceAV_eq {β : Sort _} (v : AV) (k : AV → β) : forceAV v k = k v := by cases v <;> simp only [forceAV, forceSV_eq, forceSVs_eq]
theorem forceTm_eq {β : Sort _} : ∀ (vs : List AV) (k : List AV → β), forceTm vs k = k vs
  | [], _ => rfl
  | v :: vs, k => by simp only [forceTm, forceAV_eq, forceTm_eq vs]
theorem forceReg_eq {β : Sort _} (g : Reg) (k : Reg → β) : forceReg g k = k g := by cases g <;> rfl
theorem forceRegs_eq {β : Sort _} : ∀ (rs : Regs) (k : Regs → β), forceRegs rs k = k rs
  | [], _ => rfl
  | (r, g) :: rs, k => by simp only [forceRegs, forceReg_eq, forceRegs_eq rs]
theorem forceSt_eq {β : Sort _} (st : St) (k : St → β) : forceSt st k = k st := by simp only [forceSt, forceTm_eq, forceRegs_eq]

/-! ### a region in the text's order -/
def runSeq (E : Env) (ops : Array Oper) : List Oper → Nat → St → Option (List Prop × St)
  | [], _, st => some ([], st)
  | o :: os, n, st => match opG E ops st.tmps st.regs n o with
    | some (vc, av, e) => forceSt (stepSt st o.dst av e) fun st => match runSeq E ops os (n + 8) st with
      | some (vc', st') => some (vc ++ vc', st')
      | none => none
    | none => none

theorem runSeq_sound {E : Env} (hE : EnvOK E) {cx : Cx} (hP : cx.P = E.P) {ops : Array Oper} {Q : Exit → Act → World → Prop} : ∀ (os : List Oper) (k n : Nat) (st st' : St) (φ : Phi) (a : Act) (w : World) (vc : List Prop),
    (∀ i, os[i]? = ops[k + i]?) → k + os.length = ops.size → RelF cx φ st a w → FreshFrom cx st n → runSeq E ops os n st = some (vc, st') → (∀ p ∈ vc, p) →
    (∀ a' w' φ', RelF cx φ' st' a' w' → FreshFrom cx st' (n + 8 * os.length) → Q .normal a' w') → wpOps cx.P ops Q (List.range' k os.length) a w
  | [], k, n, st, st', φ, a, w, vc, _, _, R, hF, h, _, hQ => by
    simp only [runSeq, Option.some.injEq, Prod.mk.injEq] at h
    obtain ⟨_, rfl⟩ := h
    exact hQ a w φ R (by simpa using hF)
  | o :: os, k, n, st, st', φ, a, w, vc, hos, hlen, R, hF, h, hvc, hQ => by
    simp only [runSeq, forceSt_eq, stepSt_eq] at h
    split at h
    · rename_i vc1 av e ho
      split at h
      · rename_i vc2 st2 hr
        cases h
        have hk : ops[k]? = some o := by have := hos 0; simpa using this.symm
        simp only [List.length_cons, List.range'_succ]
        rw [wpOps_cons]
        have hlt : av.ltB (n + 8) = true ∧ Eff.ltB (n + 8) e = true := by
          unfold opG at ho
          split at ho
          · split at ho
            · rename_i hc
              cases ho
              simpa using hc
            · cases ho
          · cases ho
        refine opG_sound hE hP R (fun j _ => hF (n + j) (by omega)) hk ho (fun p hp => hvc p (by simp [hp])) (fun a' w' φ' R' => ?_)
        refine runSeq_sound hE hP os (k + 1) (n + 8) _ _ φ' a' w' vc2 (fun i => ?_) (by simp at hlen; omega) R' (hF.put hlt.1 hlt.2) hr (fun p hp => hvc p (by simp [hp])) (fun a2 w2 φ2 R2 hF2 => hQ a2 w2 φ2 R2 ?_)
        · have := hos (i + 1)
          simp only [List.getElem?_cons_succ] at this
          rw [this]; congr 1; omega
        · rw [List.length_cons]
          have : n + 8 * (os.length + 1) = n + 8 + 8 * os.length := by omega
          rw [this]; exact hF2
      · cases h
    · cases h

end Go.Lift
