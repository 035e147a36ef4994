/- Lines for the functions of this seat; merged from texts of their own. -/
import Derived.Test.YtefajmghpgiekaaLD
set_option linter.unusedVariables false
set_option linter.unusedSimpArgs false
/- A region whose order is drawn. -/
namespace Go.Lift
open Go

structure Rec where
  rd : List Tmp
  ids : List Nat
  dst : Option Tmp
  av : AV
  e : Eff
  n : Nat
  pre : List Bool
  soft : Bool
  shp : List (Nat × (Bool × Ty))
  keep : List (Nat × (Bool × Ty))
def St.app (st : St) (r : Rec) : St := ({ st with regs := r.e.app st.regs } : St).put r.dst r.av

def guardT (ops : Array Oper) (o : Oper) : List Tmp :=
  match o.guard with
  | some (j, _) => ((ops[j]?).bind (·.dst)).toList
  | none => []
def readsT (ops : Array Oper) (o : Oper) : List Tmp := tmpsOf o.op.operands.toList ++ guardT ops o
def allIdsAt (ts : List Tmp) (tm : List AV) : List Nat := ts.flatMap fun t => match tm[t]? with
  | some v => v.allIds
  | none => []
def inR (n r : Nat) : Bool := decide (n ≤ r) && decide (r < n + 8)

/-- The shape of a region: a row, or a struct; of which type. -/
def shpAt (rs : Regs) (r : Nat) : Option (Bool × Ty) :=
  match look rs r with
  | some (.row t _) => some (true, t)
  | some (.box t _) => some (false, t)
  | _ => none
/-- An operation that reads no more of its regions than their shapes. -/
def isSoft (P : Program) (o : Oper) : Bool :=
  match o.op with
  | .nilCheck _ => true
  | .move _ => true
  | .assign _ => true
  | .fieldAddr _ _ _ => true
  | .indexAddr t _ _ => match P.underlying t with
    | some (.array _ _) => true
    | _ => false
  | _ => false
def lk : List (Nat × (Bool × Ty)) → Nat → Option (Bool × Ty)
  | [], _ => none
  | (k, g) :: l, r => if k = r then some g else lk l r
def shpsOf (rs : Regs) : List Nat → List (Nat × (Bool × Ty))
  | [] => []
  | r :: l => match shpAt rs r with
    | some g => (r, g) :: shpsOf rs l
    | none => shpsOf rs l
theorem lk_shpsOf (rs : Regs) : ∀ {l : List Nat} {r : Nat}, r ∈ l → lk (shpsOf rs l) r = shpAt rs r
  | [], _, h => by simp at h
  | k :: l, r, h => by
    by_cases hkr : k = r
    · subst hkr
      simp only [shpsOf]
      cases hs : shpAt rs k with
      | some g => simp [lk]
      | none =>
        simp only
        by_cases hm : k ∈ l
        · rw [lk_shpsOf rs hm, hs]
        · clear h
          induction l with
          | nil => rfl
          | cons j l ih =>
            simp only [List.mem_cons, not_or] at hm
            simp only [shpsOf]
            cases shpAt rs j with
            | none => exact ih hm.2
            | some g => simp only [lk]; rw [if_neg (fun e => hm.1 e.symm)]; exact ih hm.2
    · have hm : r ∈ l := by rcases List.mem_cons.1 h with h | h; exact (hkr h.symm).elim; exact h
      simp only [shpsOf]
      cases hs : shpAt rs k with
      | some g => simp only [lk]; rw [if_neg hkr]; exact lk_shpsOf rs hm
      | none => exact lk_shpsOf rs hm
def keepsOf (rs rs' : Regs) : List Nat → List (Nat × (Bool × Ty))
  | [] => []
  | r :: l => match shpAt rs r, shpAt rs' r with
    | some g, some g' => if g = g' then (r, g) :: keepsOf rs rs' l else keepsOf rs rs' l
    | _, _ => keepsOf rs rs' l
theorem keepsOf_spec (rs rs' : Regs) : ∀ {l : List Nat} {r : Nat} {g : Bool × Ty}, (r, g) ∈ keepsOf rs rs' l → r ∈ l ∧ shpAt rs r = some g ∧ shpAt rs' r = some g
  | [], _, _, h => by simp [keepsOf] at h
  | k :: l, r, g, h => by
    simp only [keepsOf] at h
    split at h
    · rename_i g1 g2 h1 h2
      split at h
      · rename_i e
        subst e
        rcases List.mem_cons.1 h with h | h
        · cases h; exact ⟨List.mem_cons_self .., h1, h2⟩
        · obtain ⟨a, b⟩ := keepsOf_spec rs rs' h; exact ⟨List.mem_cons_of_mem _ a, b⟩
      · obtain ⟨a, b⟩ := keepsOf_spec rs rs' h; exact ⟨List.mem_cons_of_mem _ a, b⟩
    · obtain ⟨a, b⟩ := keepsOf_spec rs rs' h; exact ⟨List.mem_cons_of_mem _ a, b⟩
def recOf (E : Env) (ops : Array Oper) (pre : List Bool) (n : Nat) (o : Oper) (st : St) (f : List AV → Regs → Option Out) : Option (List Prop × Rec) :=
  let ts := readsT ops o
  let ids := allIdsAt ts st.tmps
  match f st.tmps (restr ids st.regs) with
  | some (vc, av, e) =>
    if (touch e).all (fun r => (ids.contains r && (look st.regs r).isSome) || inR n r) && av.allIds.all (fun r => ids.contains r || inR n r) then
      some (vc, ⟨ts, ids, o.dst, av, e, n, pre, isSoft E.P o && ids.all (fun r => (shpAt st.regs r).isSome), shpsOf st.regs ids, keepsOf st.regs (e.app st.regs) (touch e)⟩) else none
  | none => none
def recV (E : Env) (ops : Array Oper) (pre : List Bool) (n : Nat) (o : Oper) (st : St) : Option (List Prop × Rec) :=
  recOf E ops pre n o st fun tm rs => opG E ops tm rs n o
/-- The same, without what is told already. -/
def recVP (E : Env) (ops : Array Oper) (pre : List Bool) (n : Nat) (o : Oper) (st : St) : Option (List Prop × Rec) :=
  recOf E ops pre n o st fun tm rs => opGP E ops tm rs n o
theorem recVP_spec {E : Env} {ops : Array Oper} {pre : List Bool} {n : Nat} {o : Oper} {st : St} {vc' : List Prop} {r : Rec} (hI : Inv st.tmps) (h : recVP E ops pre n o st = some (vc', r)) :
    (∃ vc, recV E ops pre n o st = some (vc, r) ∧ ((∀ p ∈ vc', p) → ∀ p ∈ vc, p)) ∧ Inv (st.app r).tmps := by
  unfold recVP recOf at h
  simp only at h
  split at h
  · rename_i vc1 av e hg
    split at h
    · rename_i hc
      cases h
      obtain ⟨⟨vc, h1, h2⟩, h3⟩ := opGP_spec hI hg
      refine ⟨⟨vc, ?_, h2⟩, ?_⟩
      · unfold recV recOf
        simp only [h1]
        rw [if_pos hc]
      · unfold St.app
        simp only
        cases hd : o.dst with
        | none => exact hI
        | some d => exact h3 d hd
    · cases h
  · cases h

def orL : List Bool → List Bool → List Bool
  | [], bs => bs
  | a :: as, [] => a :: as
  | a :: as, b :: bs => (a || b) :: orL as bs
theorem orL_get : ∀ (as bs : List Bool) (j : Nat), (orL as bs).getD j false = (as.getD j false || bs.getD j false)
  | [], bs, j => by simp [orL]
  | a :: as, [], j => by simp [orL]
  | a :: as, b :: bs, 0 => by simp [orL]
  | a :: as, b :: bs, j + 1 => by
    have := orL_get as bs j
    simpa [orL] using this
def oneL : Nat → List Bool
  | 0 => [true]
  | n + 1 => false :: oneL n
theorem oneL_get : ∀ (n j : Nat), (oneL n).getD j false = true → j = n
  | 0, 0, _ => rfl
  | 0, j + 1, h => by simp [oneL] at h
  | n + 1, 0, h => by simp [oneL] at h
  | n + 1, j + 1, h => by
    have := oneL_get n j (by simpa [oneL] using h)
    omega

def forceNs {β : Sort _} : List Nat → (List Nat → β) → β
  | [], k => k []
  | n :: ns, k => forceNs ns fun ns => k (n :: ns)
def forceBs {β : Sort _} : List Bool → (List Bool → β) → β
  | [], k => k []
  | true :: ns, k => forceBs ns fun ns => k (true :: ns)
  | false :: ns, k => forceBs ns fun ns => k (false :: ns)
def forceEff {β : Sort _} : Eff → (Eff → β) → β
  | [], k => k []
  | .del r :: e, k => forceEff e fun e => k (.del r :: e)
  | .set none n g :: e, k => forceReg g fun g => forceEff e fun e => k (.set none n g :: e)
  | .set (some o) n g :: e, k => forceReg g fun g => forceEff e fun e => k (.set (some o) n g :: e)
def forceOn {β : Sort _} : Option Nat → (Option Nat → β) → β
  | none, k => k none
  | some n, k => k (some n)
def forceKs {β : Sort _} : List (Nat × (Bool × Ty)) → (List (Nat × (Bool × Ty)) → β) → β
  | [], k => k []
  | n :: ns, k => forceKs ns fun ns => k (n :: ns)
theorem forceKs_eq {β : Sort _} : ∀ (l : List (Nat × (Bool × Ty))) (k : List (Nat × (Bool × Ty)) → β), forceKs l k = k l
  | [], _ => rfl
  | n :: ns, k => by simp only [forceKs, forceKs_eq ns]
def forceRec {β : Sort _} (r : Rec) (k : Rec → β) : β :=
  match r with
  | ⟨rd, ids, dst, av, e, n, pre, soft, shp, keep⟩ => forceNs rd fun rd => forceNs ids fun ids => forceOn dst fun dst => forceAV av fun av => forceEff e fun e => forceBs pre fun pre => forceBs [soft] fun soft => forceKs shp fun shp => forceKs keep fun keep => k ⟨rd, ids, dst, av, e, n, pre, soft.headD false, shp, keep⟩
theorem forceNs_eq {β : Sort _} : ∀ (l : List Nat) (k : List Nat → β), forceNs l k = k l
  | [], _ => rfl
  | n :: ns, k => by simp only [forceNs, forceNs_eq ns]
theorem forceBs_eq {β : Sort _} : ∀ (l : List Bool) (k : List Bool → β), forceBs l k = k l
  | [], _ => rfl
  | true :: ns, k => by simp only [forceBs, forceBs_eq ns]
  | false :: ns, k => by simp only [forceBs, forceBs_eq ns]
theorem forceEff_eq {β : Sort _} : ∀ (l : Eff) (k : Eff → β), forceEff l k = k l
  | [], _ => rfl
  | .del r :: e, k => by simp only [forceEff, forceEff_eq e]
  | .set none n g :: e, k => by simp only [forceEff, forceReg_eq, forceEff_eq e]
  | .set (some o) n g :: e, k => by simp only [forceEff, forceReg_eq, forceEff_eq e]
theorem forceOn_eq {β : Sort _} (o : Option Nat) (k : Option Nat → β) : forceOn o k = k o := by cases o <;> rfl
theorem forceRec_eq {β : Sort _} (r : Rec) (k : Rec → β) : forceRec r k = k r := by
  cases r
  simp only [forceRec, forceNs_eq, forceOn_eq, forceAV_eq, forceEff_eq, forceBs_eq, forceKs_eq, List.headD_cons]

/-! ### an operation sees its own temporaries and regions alone -/
theorem argA_local {tm tm2 : List AV} {ts : List Tmp} (h : ∀ t ∈ ts, tm[t]? = tm2[t]?) : argA tm ts = argA tm2 ts := by
  funext x
  cases x with
  | tmp t =>
    simp only [argA]
    split
    · rename_i hm; rw [h t (by simpa using hm)]
    · rfl
  | _ => rfl
theorem argS_local {tm tm2 : List AV} {ts : List Tmp} (h : ∀ t ∈ ts, tm[t]? = tm2[t]?) : argS tm ts = argS tm2 ts := by
  funext x
  unfold argS
  rw [argA_local h]
theorem gdVC_local {tm tm2 : List AV} : ∀ {ts : List Tmp} (_ : ∀ t ∈ ts, tm[t]? = tm2[t]?), gdVC tm ts = gdVC tm2 ts
  | [], _ => rfl
  | t :: ts, h => by
    have ih := gdVC_local (tm := tm) (tm2 := tm2) (ts := ts) (fun t ht => h t (List.mem_cons_of_mem _ ht))
    unfold gdVC at ih ⊢
    simp only [List.flatMap_cons]
    rw [ih]
    unfold gdOf
    rw [h t (List.mem_cons_self ..)]
theorem mem_tmpsOf {l : List Operand} {t : Tmp} (h : Operand.tmp t ∈ l) : t ∈ tmpsOf l := List.mem_filterMap.2 ⟨_, h, rfl⟩
theorem rawV_local {tm tm2 : List AV} {x : Operand} (h : ∀ t, x = .tmp t → tm[t]? = tm2[t]?) : rawV tm x = rawV tm2 x := by
  cases x with
  | tmp t => simp only [rawV]; rw [h t rfl]
  | _ => rfl

theorem opPlain_local {E : Env} {tm tm2 : List AV} {rs : Regs} {n : Nat} {o : Oper} (h : ∀ t ∈ tmpsOf o.op.operands.toList, tm[t]? = tm2[t]?) : opPlain E tm rs n o = opPlain E tm2 rs n o := by
  unfold opPlain
  split
  · rename_i neg x hnt
    have hx : rawV tm x = rawV tm2 x := rawV_local fun t ht => by
      subst ht
      refine h t (mem_tmpsOf ?_)
      unfold nilTest at hnt
      split at hnt
      · rename_i ho
        split at hnt
        · cases hnt; rw [ho]; simp [Op.operands]
        · cases hnt
      · rename_i ho
        split at hnt
        · cases hnt; rw [ho]; simp [Op.operands]
        · cases hnt
      · cases hnt
    rw [hx]
  split
  · rename_i c a b ho
    have hx : ∀ x ∈ [c, a, b], rawV tm x = rawV tm2 x := fun x hx => rawV_local fun t ht => by
      subst ht
      refine h t (mem_tmpsOf ?_)
      rw [ho]
      simpa [Op.operands] using hx
    unfold pickV
    rw [hx c (by simp), hx a (by simp), hx b (by simp)]
  · rename_i f args ats ho
    have h' : ∀ t ∈ tmpsOf (f :: args.toList), tm[t]? = tm2[t]? := fun t ht => h t (by
      rw [ho]
      simpa [Op.operands, Call.operands] using ht)
    simp only [argA_local h', argS_local h', gdVC_local h']
  · simp only [argA_local h, argS_local h, gdVC_local h]

theorem guardKey_local {ops : Array Oper} {tm tm2 : List AV} {o : Oper} {j : Nat} {want : Bool} (hg : o.guard = some (j, want)) (h : ∀ t ∈ readsT ops o, tm[t]? = tm2[t]?) : guardKey ops tm j want = guardKey ops tm2 j want := by
  unfold guardKey
  cases hd : (ops[j]?).bind (·.dst) with
  | none => rfl
  | some t =>
    have := h t (List.mem_append.2 (.inr (by simp [guardT, hg, hd])))
    simp only
    rw [this]
theorem opG_local {E : Env} {ops : Array Oper} {tm tm2 : List AV} {rs : Regs} {n : Nat} {o : Oper} (h : ∀ t ∈ readsT ops o, tm[t]? = tm2[t]?) : opG E ops tm rs n o = opG E ops tm2 rs n o := by
  have h1 : opPlain E tm rs n o = opPlain E tm2 rs n o := opPlain_local fun t ht => h t (List.mem_append.2 (.inl ht))
  unfold opG opG0
  rw [h1]
  cases hg : o.guard with
  | none => rfl
  | some g =>
    obtain ⟨j, want⟩ := g
    simp only
    rw [guardKey_local hg h]

theorem restr_local {ids : List Nat} {rs rs2 : Regs} (h : ∀ r ∈ ids, look rs r = look rs2 r) : restr ids rs = restr ids rs2 := by
  induction ids with
  | nil => rfl
  | cons r ids ih =>
    have := ih fun s hs => h s (List.mem_cons_of_mem _ hs)
    unfold restr at this ⊢
    simp only [List.filterMap_cons]
    rw [h r (List.mem_cons_self ..), this]
theorem allIdsAt_local {tm tm2 : List AV} : ∀ {ts : List Tmp} (_ : ∀ t ∈ ts, tm[t]? = tm2[t]?), allIdsAt ts tm = allIdsAt ts tm2
  | [], _ => rfl
  | t :: ts, h => by
    have ih := allIdsAt_local (tm := tm) (tm2 := tm2) (ts := ts) (fun t ht => h t (List.mem_cons_of_mem _ ht))
    unfold allIdsAt at ih ⊢
    simp only [List.flatMap_cons]
    rw [ih, h t (List.mem_cons_self ..)]

/-! ### many in turn -/
def foldL : List Rec → List Bool → St → St
  | r :: rs, true :: bs, st => foldL rs bs (st.app r)
  | _ :: rs, false :: bs, st => foldL rs bs st
  | _, _, st => st
def foldAll (rs : List Rec) (st : St) : St := rs.foldl St.app st

def quietB (x y : Rec) : Bool :=
  (match x.dst with
    | some d => !y.rd.contains d
    | none => true) && (touch x.e).all (fun r => !y.ids.contains r || (y.soft && x.keep.any fun p => p.1 == r && decide (lk y.shp r = some p.2)))
def noM (x : Rec) (n : Nat) : Bool := (touch x.e).all (fun r => !inR n r) && x.av.allIds.all (fun r => !inR n r)
def commB (x y : Rec) : Bool :=
  (match x.dst, y.dst with
    | some a, some b => a != b
    | _, _ => true) && (touch x.e).all (fun r => !(touch y.e).contains r)
/-- i before j in the text; x is i's, y is j's. -/
def pairB (i : Nat) (x y : Rec) : Bool :=
  noM x y.n && (y.pre.getD i false || (quietB x y && quietB y x && commB x y && noM y x.n))
def pairs : Nat → List Rec → Bool
  | _, [] => true
  | k, x :: rs => rs.all (pairB k x) && pairs (k + 1) rs
theorem pairs_spec : ∀ {rs : List Rec} {k i j : Nat} {x y : Rec}, pairs k rs = true → i < j → rs[i]? = some x → rs[j]? = some y → pairB (k + i) x y = true
  | [], _, i, _, _, _, _, _, hi, _ => by simp at hi
  | x0 :: rs, k, i, j, x, y, h, hij, hi, hj => by
    simp only [pairs, Bool.and_eq_true, List.all_eq_true] at h
    cases j with
    | zero => omega
    | succ j =>
      simp only [List.getElem?_cons_succ] at hj
      cases i with
      | zero =>
        simp only [List.getElem?_cons_zero, Option.some.injEq] at hi
        subst hi
        exact h.1 y (List.mem_of_getElem? hj)
      | succ i =>
        simp only [List.getElem?_cons_succ] at hi
        have := pairs_spec (rs := rs) (k := k + 1) h.2 (by omega) hi hj
        rwa [show k + 1 + i = k + (i + 1) from by omega] at this

def Eqv (s s' : St) : Prop := s.tmps = s'.tmps ∧ ∀ r, look s.regs r = look s'.regs r
theorem Eqv.refl (s : St) : Eqv s s := ⟨rfl, fun _ => rfl⟩
theorem Eqv.trans {a b c : St} (h : Eqv a b) (k : Eqv b c) : Eqv a c := ⟨h.1.trans k.1, fun r => (h.2 r).trans (k.2 r)⟩
theorem app_tmps (s : St) (r : Rec) : (s.app r).tmps = match r.dst with
    | some d => s.tmps.set d r.av
    | none => s.tmps := by
  unfold St.app St.put
  cases r.dst <;> rfl
theorem app_regs (s : St) (r : Rec) : (s.app r).regs = r.e.app s.regs := by unfold St.app; rw [St.put_regs]
theorem app_next (s : St) (r : Rec) : (s.app r).next = s.next := by unfold St.app; rw [St.put_next]
theorem Eqv.app {s s' : St} (h : Eqv s s') (r : Rec) : Eqv (s.app r) (s'.app r) := by
  refine ⟨by rw [app_tmps, app_tmps, h.1], fun k => ?_⟩
  rw [app_regs, app_regs]
  exact look_app_congr (h.2 k)
theorem Eqv.foldL : ∀ {rs : List Rec} {bs : List Bool} {s s' : St}, Eqv s s' → Eqv (foldL rs bs s) (foldL rs bs s')
  | [], _, _, _, h => by simpa [Go.Lift.foldL] using h
  | _ :: _, [], _, _, h => by simpa [Go.Lift.foldL] using h
  | r :: rs, true :: bs, _, _, h => by simp only [Go.Lift.foldL]; exact Eqv.foldL (h.app r)
  | r :: rs, false :: bs, _, _, h => by simp only [Go.Lift.foldL]; exact Eqv.foldL h
theorem app_comm {x y : Rec} (h : commB x y = true) (s : St) : Eqv ((s.app x).app y) ((s.app y).app x) := by
  simp only [commB, Bool.and_eq_true, List.all_eq_true, Bool.not_eq_true', List.contains_eq_mem, decide_eq_false_iff_not] at h
  obtain ⟨h1, h2⟩ := h
  refine ⟨?_, fun k => ?_⟩
  · simp only [app_tmps]
    cases hx : x.dst with
    | none => rfl
    | some a =>
      cases hy : y.dst with
      | none => rfl
      | some b =>
        rw [hx, hy] at h1
        simp only [bne_iff_ne] at h1
        exact List.set_comm _ _ h1
  · simp only [app_regs]
    by_cases hk : k ∈ touch x.e
    · have hky := h2 k hk
      rw [look_app_not hky]
      exact look_app_congr (look_app_not hky).symm
    · rw [look_app_not (e := x.e) (rs := y.e.app s.regs) hk]
      exact look_app_congr (look_app_not hk)
/-- A new one past those that commute with it. -/
theorem foldL_app : ∀ {rs : List Rec} {bs : List Bool} {x : Rec} {s : St}, (∀ (j : Nat) y, rs[j]? = some y → bs[j]? = some true → commB x y = true) → Eqv (foldL rs bs (s.app x)) ((foldL rs bs s).app x)
  | [], _, _, _, _ => by simpa [Go.Lift.foldL] using Eqv.refl _
  | _ :: _, [], _, _, _ => by simpa [Go.Lift.foldL] using Eqv.refl _
  | r :: rs, true :: bs, x, s, h => by
    simp only [Go.Lift.foldL]
    have hc := h 0 r (by simp) (by simp)
    exact (Eqv.foldL (app_comm hc s)).trans (foldL_app fun j y h1 h2 => h (j + 1) y (by simpa using h1) (by simpa using h2))
  | r :: rs, false :: bs, x, s, h => by
    simp only [Go.Lift.foldL]
    exact foldL_app fun j y h1 h2 => h (j + 1) y (by simpa using h1) (by simpa using h2)
theorem foldL_set : ∀ {rs : List Rec} {bs : List Bool} {i : Nat} {x : Rec} {s : St}, rs[i]? = some x → bs[i]? = some false →
    (∀ (j : Nat) y, i < j → rs[j]? = some y → bs[j]? = some true → commB x y = true) → Eqv ((foldL rs bs s).app x) (foldL rs (bs.set i true) s)
  | [], _, i, _, _, h, _, _ => by simp at h
  | _ :: _, [], i, _, _, _, h, _ => by simp at h
  | r :: rs, b :: bs, 0, x, s, h1, h2, h3 => by
    simp only [List.getElem?_cons_zero, Option.some.injEq] at h1 h2
    subst h1; subst h2
    simp only [List.set_cons_zero, Go.Lift.foldL]
    have := foldL_app (rs := rs) (bs := bs) (x := r) (s := s) fun j y e1 e2 => h3 (j + 1) y (by omega) (by simpa using e1) (by simpa using e2)
    exact ⟨this.1.symm, fun k => (this.2 k).symm⟩
  | r :: rs, b :: bs, i + 1, x, s, h1, h2, h3 => by
    simp only [List.getElem?_cons_succ] at h1 h2
    simp only [List.set_cons_succ]
    have h3' : ∀ (j : Nat) y, i < j → rs[j]? = some y → bs[j]? = some true → commB x y = true := fun j y e0 e1 e2 => h3 (j + 1) y (by omega) (by simpa using e1) (by simpa using e2)
    cases b with
    | true => simp only [Go.Lift.foldL]; exact foldL_set h1 h2 h3'
    | false => simp only [Go.Lift.foldL]; exact foldL_set h1 h2 h3'

theorem look_app_touch : ∀ {e : Eff} {rs rs' : Regs} {s : Nat}, s ∈ touch e → look (e.app rs) s = look (e.app rs') s
  | [], _, _, _, h => by simp [touch] at h
  | i :: e, rs, rs', s, h => by
    simp only [Eff.app]
    by_cases h1 : s ∈ i.touch
    · refine look_app_congr ?_
      cases i with
      | set old n g =>
        simp only [EffI.app, look_upd, look_without]
        by_cases hn : n = s
        · rw [if_pos hn, if_pos hn]
        · cases old with
          | none => simp [EffI.touch] at h1; exact (hn h1.symm).elim
          | some o =>
            simp only [EffI.touch, List.mem_cons, List.not_mem_nil, or_false] at h1
            have : o = s := by rcases h1 with h1 | h1; exact h1.symm; exact (hn h1.symm).elim
            subst this
            simp
      | del r =>
        simp only [EffI.touch, List.mem_singleton] at h1
        subst h1
        simp [EffI.app, look_drop]
    · simp only [touch, List.flatMap_cons, List.mem_append] at h
      rcases h with h | h
      · exact (h1 h).elim
      · exact look_app_touch h

/-- What one reads is the same: s is the machine's, s' the text's. -/
def Sees (y : Rec) (s s' : St) : Prop := (∀ t ∈ y.rd, s.tmps[t]? = s'.tmps[t]?) ∧
  (∀ r ∈ y.ids, if y.soft = true then (∀ g, lk y.shp r = some g → shpAt s'.regs r = some g → shpAt s.regs r = some g) else look s.regs r = look s'.regs r) ∧ s.tmps.length = s'.tmps.length
theorem shpAt_congr {rs rs' : Regs} {r : Nat} (h : look rs r = look rs' r) : shpAt rs r = shpAt rs' r := by unfold shpAt; rw [h]
theorem Sees.app {y : Rec} {s s' : St} (h : Sees y s s') (x : Rec) : Sees y (s.app x) (s'.app x) := by
  refine ⟨fun t ht => ?_, fun r hr => ?_, ?_⟩
  · rw [app_tmps, app_tmps]
    cases x.dst with
    | none => exact h.1 t ht
    | some d =>
      simp only [List.getElem?_set]
      rw [h.1 t ht, h.2.2]
  · have h2 := h.2.1 r hr
    rw [app_regs, app_regs]
    split
    · rename_i hs
      rw [if_pos hs] at h2
      by_cases hm : r ∈ touch x.e
      · rw [shpAt_congr (look_app_touch (rs := s.regs) (rs' := s'.regs) hm)]; exact fun _ _ h => h
      · rw [shpAt_congr (look_app_not hm), shpAt_congr (look_app_not hm)]; exact h2
    · rename_i hs
      rw [if_neg hs] at h2
      exact look_app_congr h2
  · rw [app_tmps, app_tmps]
    cases x.dst <;> simp [h.2.2]
theorem quiet_spec {x y : Rec} (h : quietB x y = true) : (∀ d, x.dst = some d → d ∉ y.rd) ∧ ∀ r ∈ touch x.e, r ∉ y.ids ∨ (y.soft = true ∧ ∃ g, (r, g) ∈ x.keep ∧ lk y.shp r = some g) := by
  simp only [quietB, Bool.and_eq_true, List.all_eq_true, Bool.or_eq_true, Bool.not_eq_true', List.contains_eq_mem, decide_eq_false_iff_not, List.any_eq_true, beq_iff_eq, decide_eq_true_eq] at h
  refine ⟨fun d hd => ?_, fun r hr => ?_⟩
  · have := h.1
    rw [hd] at this
    simpa using this
  · rcases h.2 r hr with h1 | ⟨h1, p, h2, h3, h4⟩
    · exact .inl h1
    · obtain ⟨k, g⟩ := p
      cases h3
      exact .inr ⟨h1, g, h2, h4⟩
/-- x is done by the machine alone. -/
theorem quiet_more {x y : Rec} (h : quietB x y = true) (hk : ∀ r g, (r, g) ∈ x.keep → r ∈ touch x.e → ∀ rs, shpAt (x.e.app rs) r = some g) (s : St) : Sees y (s.app x) s := by
  obtain ⟨h1, h2⟩ := quiet_spec h
  refine ⟨fun t ht => ?_, fun r hr => ?_, ?_⟩
  · rw [app_tmps]
    cases hx : x.dst with
    | none => rfl
    | some d =>
      simp only
      rw [List.getElem?_set_ne (fun (e : d = t) => h1 d hx (by rw [e]; exact ht))]
  · rw [app_regs]
    by_cases hm : r ∈ touch x.e
    · rcases h2 r hm with h3 | ⟨h3, g, h4, h5⟩
      · exact (h3 hr).elim
      · rw [if_pos h3]
        intro g' hg' _
        rw [h5] at hg'
        cases hg'
        exact hk r g h4 hm s.regs
    · split
      · rw [shpAt_congr (look_app_not hm)]; exact fun _ _ h => h
      · exact look_app_not hm
  · rw [app_tmps]
    cases x.dst <;> simp
/-- x is done by the text alone. -/
theorem quiet_less {x y : Rec} (h : quietB x y = true) (s : St) (hk : ∀ r g, (r, g) ∈ x.keep → shpAt s.regs r = some g) : Sees y s (s.app x) := by
  obtain ⟨h1, h2⟩ := quiet_spec h
  refine ⟨fun t ht => ?_, fun r hr => ?_, ?_⟩
  · rw [app_tmps]
    cases hx : x.dst with
    | none => rfl
    | some d =>
      simp only
      rw [List.getElem?_set_ne (fun (e : d = t) => h1 d hx (by rw [e]; exact ht))]
  · rw [app_regs]
    by_cases hm : r ∈ touch x.e
    · rcases h2 r hm with h3 | ⟨h3, g, h4, h5⟩
      · exact (h3 hr).elim
      · rw [if_pos h3]
        intro g' hg' _
        rw [h5] at hg'
        cases hg'
        exact hk r g h4
    · split
      · rw [shpAt_congr (look_app_not hm)]; exact fun _ _ h => h
      · exact (look_app_not hm).symm
  · rw [app_tmps]
    cases x.dst <;> simp
theorem Sees.trans {y : Rec} {a b c : St} (h : Sees y a b) (k : Sees y b c) : Sees y a c := by
  refine ⟨fun t ht => (h.1 t ht).trans (k.1 t ht), fun r hr => ?_, h.2.2.trans k.2.2⟩
  have h1 := h.2.1 r hr
  have h2 := k.2.1 r hr
  split
  · rename_i hs
    rw [if_pos hs] at h1 h2
    exact fun g hg h => h1 g hg (h2 g hg h)
  · rename_i hs
    rw [if_neg hs] at h1 h2
    exact h1.trans h2
theorem Sees.refl (y : Rec) (a : St) : Sees y a a := ⟨fun _ _ => rfl, fun _ _ => by split; exact fun _ _ h => h; rfl, rfl⟩
theorem sees_after {y : Rec} : ∀ {rs : List Rec} {bs : List Bool} {s : St}, (∀ (j : Nat) x, rs[j]? = some x → bs[j]? = some true → quietB x y = true ∧ ∀ r g, (r, g) ∈ x.keep → r ∈ touch x.e → ∀ rs, shpAt (x.e.app rs) r = some g) → Sees y (foldL rs bs s) s
  | [], _, _, _ => by simpa [Go.Lift.foldL] using Sees.refl _ _
  | _ :: _, [], _, _ => by simpa [Go.Lift.foldL] using Sees.refl _ _
  | r :: rs, true :: bs, s, h => by
    simp only [Go.Lift.foldL]
    have h0 := h 0 r (by simp) (by simp)
    exact (sees_after fun j x h1 h2 => h (j + 1) x (by simpa using h1) (by simpa using h2)).trans (quiet_more h0.1 h0.2 s)
  | r :: rs, false :: bs, s, h => by
    simp only [Go.Lift.foldL]
    exact sees_after fun j x h1 h2 => h (j + 1) x (by simpa using h1) (by simpa using h2)
theorem sees_here {y : Rec} : ∀ {rs : List Rec} {bs : List Bool} {i : Nat} {s s' : St}, Sees y s s' → rs[i]? = some y → bs[i]? = some false →
    (∀ (j : Nat) x, j < i → rs[j]? = some x → (bs[j]? = some true ∨ quietB x y = true) ∧ ∀ r g, (r, g) ∈ x.keep → shpAt (foldAll (rs.take j) s').regs r = some g) →
    (∀ (j : Nat) x, i < j → rs[j]? = some x → bs[j]? = some true → quietB x y = true ∧ ∀ r g, (r, g) ∈ x.keep → r ∈ touch x.e → ∀ rs, shpAt (x.e.app rs) r = some g) →
    Sees y (foldL rs bs s) (foldAll (rs.take i) s')
  | [], _, i, _, _, _, h, _, _, _ => by simp at h
  | _ :: _, [], i, _, _, _, _, h, _, _ => by simp at h
  | r :: rs, b :: bs, 0, s, s', h, h1, h2, h3, h4 => by
    simp only [List.getElem?_cons_zero, Option.some.injEq] at h1 h2
    subst h2
    simp only [Go.Lift.foldL, List.take_zero, foldAll, List.foldl_nil]
    exact (sees_after (y := y) (s := s) fun j x e1 e2 => h4 (j + 1) x (by omega) (by simpa using e1) (by simpa using e2)).trans h
  | r :: rs, b :: bs, i + 1, s, s', h, h1, h2, h3, h4 => by
    simp only [List.getElem?_cons_succ] at h1 h2
    have h3' : ∀ (j : Nat) x, j < i → rs[j]? = some x → (bs[j]? = some true ∨ quietB x y = true) ∧ ∀ q g, (q, g) ∈ x.keep → shpAt (foldAll (rs.take j) (s'.app r)).regs q = some g := fun j x e0 e1 => by
      have := h3 (j + 1) x (by omega) (by simpa using e1)
      simpa [foldAll] using this
    have h4' : ∀ (j : Nat) x, i < j → rs[j]? = some x → bs[j]? = some true → quietB x y = true ∧ ∀ r g, (r, g) ∈ x.keep → r ∈ touch x.e → ∀ rs, shpAt (x.e.app rs) r = some g := fun j x e0 e1 e2 => h4 (j + 1) x (by omega) (by simpa using e1) (by simpa using e2)
    simp only [List.take_succ_cons, foldAll, List.foldl_cons]
    have h0 := h3 0 r (by omega) (by simp)
    simp only [List.getElem?_cons_zero, Option.some.injEq, List.take_zero, foldAll, List.foldl_nil] at h0
    cases b with
    | true =>
      simp only [Go.Lift.foldL]
      exact sees_here (h.app r) h1 h2 h3' h4'
    | false =>
      simp only [Go.Lift.foldL]
      refine sees_here (h.trans (quiet_less ?_ s' h0.2)) h1 h2 h3' h4'
      rcases h0.1 with h0 | h0
      · cases h0
      · exact h0

theorem weakS_addr {q : SV} {r : Nat} {p : List Step} (h : weakS q = .addr r p) : q = .addr r p := by
  cases q <;> first | exact h | cases h
theorem arg_ids {ops : Array Oper} {o : Oper} {tm : List AV} {x : Operand} {r : Nat} {p : List Step} (hx : argS tm (tmpsOf o.op.operands.toList) x = some (.addr r p)) : r ∈ allIdsAt (readsT ops o) tm := by
  unfold argS at hx
  split at hx
  · rename_i sv hsv
    cases hx
    cases x with
    | tmp t =>
      simp only [argA] at hsv
      split at hsv
      · rename_i hc
        refine List.mem_flatMap.2 ⟨t, ?_, ?_⟩
        · refine List.mem_append.2 (.inl ?_)
          simpa using hc
        · cases hv : tm[t]? with
          | none => rw [hv] at hsv; cases hsv
          | some av =>
            rw [hv] at hsv
            cases av with
            | gd k b w q =>
              simp only [Option.some.injEq, AV.s.injEq] at hsv
              have := weakS_addr hsv
              subst this; simp [AV.allIds, SV.allIds]
            | s q =>
              simp only [Option.some.injEq, AV.s.injEq] at hsv
              have := weakS_addr hsv
              subst this; simp [AV.allIds, SV.allIds]
            | tup q => cases hsv
            | fn f q => cases hsv
      · cases hsv
    | const c =>
      simp only [argA, Option.map_eq_some_iff] at hsv
      obtain ⟨q, hq, e⟩ := hsv
      cases e
      unfold constAV at hq
      split at hq <;> cases hq
    | func f => simp [argA] at hsv
    | global g => simp [argA] at hsv
  · cases hx
/-- Two regions of one shape. -/
inductive Shp2 : Option Reg → Option Reg → Prop where
  | row (t : Ty) (xs ys : List t.den) : Shp2 (some (.row t xs)) (some (.row t ys))
  | box (t : Ty) (x y : t.den) : Shp2 (some (.box t x)) (some (.box t y))
theorem shp2_of {rs rs2 : Regs} {r : Nat} (h1 : (shpAt rs r).isSome = true) (h2 : shpAt rs2 r = shpAt rs r) : Shp2 (look rs r) (look rs2 r) := by
  unfold shpAt at h1 h2
  cases e1 : look rs r with
  | none => rw [e1] at h1; cases h1
  | some g =>
    rw [e1] at h1 h2
    cases e2 : look rs2 r with
    | none => rw [e2] at h2; cases g <;> cases h2; cases h1
    | some g2 =>
      rw [e2] at h2
      cases g <;> cases g2 <;> first | (cases h2; done) | (simp only [Option.some.injEq, Prod.mk.injEq, true_and] at h2; subst h2; constructor) | cases h1 | cases h2
theorem fieldA_soft {P : Program} {rs rs2 : Regs} {s : TypeId} {x : SV} {k : Nat} (h : ∀ r p, x = .addr r p → Shp2 (look rs r) (look rs2 r)) : fieldA P rs s x k = fieldA P rs2 s x k := by
  unfold fieldA
  cases fieldOf P s k with
  | none => rfl
  | some q =>
    obtain ⟨ft, off⟩ := q
    cases x with
    | addr r p =>
      have := h r p rfl
      simp only
      generalize look rs r = a at this
      generalize look rs2 r = b at this
      cases this <;> rfl
    | _ => rfl
theorem indexA_soft {P : Program} {rs rs2 : Regs} {t : TypeId} {x i : SV} {n : Nat} {e : TypeId} (ht : P.underlying t = some (.array n e)) (h : ∀ r p, x = .addr r p → Shp2 (look rs r) (look rs2 r)) : indexA P rs t x i = indexA P rs2 t x i := by
  unfold indexA
  split
  · rw [ht]
    cases x with
    | addr r p =>
      have := h r p rfl
      simp only
      generalize look rs r = a at this
      generalize look rs2 r = b at this
      cases this <;> rfl
    | ra t x => cases t <;> rfl
    | val t x => cases t <;> rfl
    | _ => rfl
  · rfl
/-- Such an operation reads no more than that. -/
theorem opG_soft {E : Env} {ops : Array Oper} {tm : List AV} {rs rs2 : Regs} {n : Nat} {o : Oper} (ho : isSoft E.P o = true) (h : ∀ r ∈ allIdsAt (readsT ops o) tm, Shp2 (look rs r) (look rs2 r)) :
    opG E ops tm rs n o = opG E ops tm rs2 n o := by
  have hA : ∀ x r p, argS tm (tmpsOf o.op.operands.toList) x = some (.addr r p) → Shp2 (look rs r) (look rs2 r) := fun x r p hx => h r (arg_ids hx)
  have hcall : isCallO o = false := by
    unfold isSoft at ho
    unfold isCallO
    split at ho <;> rename_i hop <;> first | rw [hop] | cases ho
  have key : opPlain E tm rs n o = opPlain E tm rs2 n o := by
    unfold isSoft at ho
    unfold opPlain
    split at ho
    · rename_i x hop
      rw [hop] at hA ⊢
      simp only [nilTest, core, hop]
      congr 1
      cases hx : argS tm (tmpsOf (Op.nilCheck x).operands.toList) x with
      | none => rfl
      | some v =>
        cases v with
        | addr r p =>
          have := hA x r p hx
          simp only
          generalize look rs r = a at this
          generalize look rs2 r = b at this
          cases this <;> rfl
        | _ => rfl
    · rename_i x hop; rw [hop]; simp only [nilTest, core, hop]
    · rename_i x hop; rw [hop]; simp only [nilTest, core, hop]
    · rename_i t x k hop
      rw [hop] at hA ⊢
      simp only [nilTest, core, hop]
      congr 1
      cases hx : argS tm (tmpsOf (Op.fieldAddr t x k).operands.toList) x with
      | none => rfl
      | some v =>
        simp only
        rw [fieldA_soft (rs2 := rs2) fun r p e => hA x r p (by rw [hx, e])]
    · rename_i t x i hop
      rw [hop] at hA ⊢
      simp only [nilTest, core, hop]
      congr 1
      split at ho
      · rename_i n' e ht
        cases hx : argS tm (tmpsOf (Op.indexAddr t x i).operands.toList) x with
        | none => rfl
        | some v =>
          cases hi : argS tm (tmpsOf (Op.indexAddr t x i).operands.toList) i with
          | none => rfl
          | some w =>
            simp only
            rw [indexA_soft (rs2 := rs2) ht fun r p e => hA x r p (by rw [hx, e])]
      · cases ho
    · cases ho
  unfold opG opG0
  rw [key]
  simp only [hcall, Bool.false_eq_true, if_false]

theorem fresh_app {cx : Cx} {s : St} {m : Nat} (h : FreshN cx s m) {x : Rec} (h1 : m ∉ touch x.e) (h2 : m ∉ x.av.allIds) : FreshN cx (s.app x) m := by
  refine ⟨⟨?_, fun av hav hm => ?_⟩, h.2⟩
  · rw [app_regs, look_app_not h1]; exact h.1.1
  · rw [app_tmps] at hav
    cases hd : x.dst with
    | none => rw [hd] at hav; exact h.1.2 av hav hm
    | some d =>
      rw [hd] at hav
      rcases List.mem_or_eq_of_mem_set hav with h3 | h3
      · exact h.1.2 av h3 hm
      · subst h3; exact h2 (AV.allIds_spec hm)
theorem fresh_foldL {cx : Cx} {m : Nat} : ∀ {rs : List Rec} {bs : List Bool} {s : St}, FreshN cx s m → (∀ (j : Nat) x, rs[j]? = some x → bs[j]? = some true → m ∉ touch x.e ∧ m ∉ x.av.allIds) → FreshN cx (foldL rs bs s) m
  | [], _, _, h, _ => by simpa [Go.Lift.foldL] using h
  | _ :: _, [], _, h, _ => by simpa [Go.Lift.foldL] using h
  | r :: rs, true :: bs, s, h, hj => by
    simp only [Go.Lift.foldL]
    obtain ⟨h1, h2⟩ := hj 0 r (by simp) (by simp)
    exact fresh_foldL (fresh_app h h1 h2) fun j x h1 h2 => hj (j + 1) x (by simpa using h1) (by simpa using h2)
  | r :: rs, false :: bs, s, h, hj => by
    simp only [Go.Lift.foldL]
    exact fresh_foldL h fun j x h1 h2 => hj (j + 1) x (by simpa using h1) (by simpa using h2)

theorem RelF.eqv {cx : Cx} {φ : Phi} {s s' : St} {a : Act} {w : World} (R : RelF cx φ s a w) (h : Eqv s s') : RelF cx φ s' a w := by
  have hok : okOf s.regs φ = okOf s'.regs φ := by
    funext b
    simp only [okOf, h.2]
  have hm : ∀ b o, okOf s.regs φ b → w.heap[b]? = some o → okOf s'.regs φ b ∧ w.heap[b]? = some o := fun b o h1 h2 => ⟨hok ▸ h1, h2⟩
  refine ⟨by rw [R.size, h.1], R.df, ?_, ?_, ?_, ?_, ?_, R.kp, R.hB, R.bs⟩
  · intro i av hi
    rw [← h.1] at hi
    exact AVRel.mono hm (fun r _ g' hg => ⟨rfl, g', by rw [h.2]; exact hg, SameKind.refl _⟩) (R.tm i av hi)
  · intro r g hg
    rw [← h.2] at hg
    exact Reg.at_mono hm (fun _ _ => rfl) (R.rg r g hg)
  · intro r r' g g' b h1 h2
    rw [← h.2] at h1 h2
    exact R.sep r r' g g' b h1 h2
  · intro r g b h1
    rw [← h.2] at h1
    exact R.fr r g b h1
  · intro r l h1 h2
    rw [← h.2] at h2
    exact R.io r l h1 h2

end Go.Lift
/- A region whose order is drawn: soundness. -/
namespace Go.Lift
open Go

def preOf (acc : List Rec) (o : Oper) : List Bool := o.after.toList.foldl (fun s e => if Region.binds .any e then orL (orL s (oneL e.on)) (match acc[e.on]? with
  | some r => r.pre
  | none => []) else s) []
def backB (k : Nat) (o : Oper) : Bool := o.after.toList.all fun e => !Region.binds .any e || decide (e.on < k)

def recsV (E : Env) (ops : Array Oper) : List Oper → List Rec → Nat → St → Option (List Prop × List Rec × St)
  | [], acc, _, st => some ([], acc, st)
  | o :: os, acc, n, st =>
    if backB acc.length o = true then
      match recVP E ops (preOf acc o) n o st with
      | some (vc, r) => forceRec r fun r => forceSt (stepSt st r.dst r.av r.e) fun st => match recsV E ops os (acc ++ [r]) (n + 8) st with
        | some (vc', rs, st') => some (vc ++ vc', rs, st')
        | none => none
      | none => none
    else none
def runDraw (E : Env) (ops : Array Oper) (st : St) : Option (List Prop × St) :=
  match recsV E ops ops.toList [] st.next st with
  | some (vc, rs, st') => if pairs 0 rs = true ∧ ops.size ≤ 64 then some (vc, bumpSt st st' 512) else none
  | none => none

theorem preOf_spec {acc : List Rec} {o : Oper} {j : Nat} (h : (preOf acc o).getD j false = true) :
    ∃ e ∈ o.after.toList, Region.binds .any e = true ∧ (j = e.on ∨ ∃ r, acc[e.on]? = some r ∧ r.pre.getD j false = true) := by
  have key : ∀ (l : List Edge) (s : List Bool), (l.foldl (fun s e => if Region.binds .any e then orL (orL s (oneL e.on)) (match acc[e.on]? with
      | some r => r.pre
      | none => []) else s) s).getD j false = true → s.getD j false = true ∨ ∃ e ∈ l, Region.binds .any e = true ∧ (j = e.on ∨ ∃ r, acc[e.on]? = some r ∧ r.pre.getD j false = true) := by
    intro l
    induction l with
    | nil => intro s h; exact .inl h
    | cons e l ih =>
      intro s h
      simp only [List.foldl_cons] at h
      rcases ih _ h with h1 | ⟨e', h1, h2⟩
      · split at h1
        · rename_i hb
          rw [orL_get, orL_get] at h1
          simp only [Bool.or_eq_true] at h1
          rcases h1 with (h1 | h1) | h1
          · exact .inl h1
          · exact .inr ⟨e, List.mem_cons_self .., hb, .inl (oneL_get _ _ h1)⟩
          · refine .inr ⟨e, List.mem_cons_self .., hb, .inr ?_⟩
            split at h1
            · rename_i r hr; exact ⟨r, hr, h1⟩
            · simp at h1
        · exact .inl h1
      · exact .inr ⟨e', List.mem_cons_of_mem _ h1, h2⟩
  rcases key _ [] h with h1 | h1
  · simp at h1
  · exact h1

/-- What is known of the i-th. -/
def Good (E : Env) (ops : Array Oper) (n0 : Nat) (st0 : St) (recs : List Rec) (i : Nat) (r : Rec) : Prop :=
  ∃ o vc, ops[i]? = some o ∧ recV E ops (preOf (recs.take i) o) (n0 + 8 * i) o (foldAll (recs.take i) st0) = some (vc, r) ∧ (∀ p ∈ vc, p) ∧ backB i o = true

theorem recsV_spec {E : Env} {ops : Array Oper} {n0 : Nat} {st0 : St} : ∀ (os : List Oper) (acc : List Rec) (vc : List Prop) (recs : List Rec) (st' : St),
    (∀ i r, acc[i]? = some r → Good E ops n0 st0 acc i r) → Inv (foldAll acc st0).tmps → (∀ i, os[i]? = ops[acc.length + i]?) → recsV E ops os acc (n0 + 8 * acc.length) (foldAll acc st0) = some (vc, recs, st') → (∀ p ∈ vc, p) →
    recs.length = acc.length + os.length ∧ st' = foldAll recs st0 ∧ ∀ i r, recs[i]? = some r → Good E ops n0 st0 recs i r
  | [], acc, vc, recs, st', hacc, _, _, h, _ => by
    simp only [recsV, Option.some.injEq, Prod.mk.injEq] at h
    obtain ⟨_, rfl, rfl⟩ := h
    exact ⟨by simp, rfl, hacc⟩
  | o :: os, acc, vc, recs, st', hacc, hI, hos, h, hvc => by
    simp only [recsV, forceRec_eq, forceSt_eq, stepSt_eq] at h
    split at h
    · rename_i hb
      split at h
      · rename_i vc1' r hr'
        obtain ⟨⟨vc1, hr, hv1⟩, hI2⟩ := recVP_spec hI hr'
        split at h
        · rename_i vc2 rs st2 hrest
          cases h
          have e1 : foldAll (acc ++ [r]) st0 = (foldAll acc st0).app r := by simp [foldAll]
          have e2 : n0 + 8 * (acc ++ [r]).length = n0 + 8 * acc.length + 8 := by simp; omega
          have := recsV_spec os (acc ++ [r]) vc2 recs st' (fun i r' hi => ?_) (by rw [e1]; exact hI2) (fun i => ?_) (by rw [e1, e2]; exact hrest) (fun p hp => hvc p (by simp [hp]))
          · obtain ⟨j1, j2, j3⟩ := this
            exact ⟨by rw [j1]; simp; omega, j2, j3⟩
          · rcases Nat.lt_or_ge i acc.length with hlt | hge
            · rw [List.getElem?_append_left hlt] at hi
              obtain ⟨o', vc', k1, k2, k3, k4⟩ := hacc i r' hi
              refine ⟨o', vc', k1, ?_, k3, k4⟩
              rw [List.take_append_of_le_length (by omega)]
              exact k2
            · have hi' : i = acc.length := by
                rcases Nat.lt_or_ge acc.length i with h9 | h9
                · rw [List.getElem?_eq_none (by simp; omega)] at hi; cases hi
                · omega
              subst hi'
              rw [List.getElem?_append_right (Nat.le_refl _)] at hi
              simp only [Nat.sub_self, List.getElem?_cons_zero, Option.some.injEq] at hi
              subst hi
              refine ⟨o, vc1, by have := hos 0; simpa using this.symm, ?_, hv1 fun p hp => hvc p (by simp [hp]), hb⟩
              rw [List.take_append_of_le_length (Nat.le_refl _), List.take_length]
              exact hr
          · have := hos (i + 1)
            simp only [List.getElem?_cons_succ] at this
            rw [this]; simp only [List.length_append, List.length_cons, List.length_nil]; congr 1; omega
        · cases h
      · cases h
    · cases h

theorem recV_spec {E : Env} {ops : Array Oper} {pre : List Bool} {n : Nat} {o : Oper} {st : St} {vc : List Prop} {r : Rec} (h : recV E ops pre n o st = some (vc, r)) :
    r.rd = readsT ops o ∧ r.ids = allIdsAt r.rd st.tmps ∧ r.dst = o.dst ∧ r.n = n ∧ r.pre = pre ∧ opG E ops st.tmps (restr r.ids st.regs) n o = some (vc, r.av, r.e) ∧
    (∀ s ∈ touch r.e, (s ∈ r.ids ∧ (look st.regs s).isSome = true) ∨ (n ≤ s ∧ s < n + 8)) ∧ (∀ s ∈ r.av.allIds, s ∈ r.ids ∨ (n ≤ s ∧ s < n + 8)) ∧
    (r.soft = true → isSoft E.P o = true ∧ ∀ s ∈ r.ids, (shpAt st.regs s).isSome = true ∧ lk r.shp s = shpAt st.regs s) ∧ (∀ s g, (s, g) ∈ r.keep → s ∈ touch r.e ∧ shpAt st.regs s = some g ∧ shpAt (r.e.app st.regs) s = some g) := by
  unfold recV recOf at h
  simp only at h
  split at h
  · rename_i vc' av e hg
    split at h
    · rename_i hc
      cases h
      simp only [Bool.and_eq_true, List.all_eq_true, Bool.or_eq_true, List.contains_eq_mem, decide_eq_true_eq, inR] at hc
      refine ⟨rfl, rfl, rfl, rfl, rfl, hg, hc.1, hc.2, ?_, ?_⟩
      · intro h
        simp only [Bool.and_eq_true, List.all_eq_true] at h
        exact ⟨h.1, fun s hs => ⟨h.2 s hs, lk_shpsOf _ hs⟩⟩
      · intro s g h
        exact keepsOf_spec _ _ h
    · cases h
  · cases h

theorem count_set : ∀ {l : List Bool} {i : Nat}, l[i]? = some false → (l.set i true).count false + 1 = l.count false
  | [], i, h => by simp at h
  | b :: l, 0, h => by simp only [List.getElem?_cons_zero, Option.some.injEq] at h; subst h; simp
  | b :: l, i + 1, h => by
    simp only [List.getElem?_cons_succ] at h
    have := count_set (l := l) h
    simp only [List.set_cons_succ, List.count_cons]
    omega
theorem foldL_true : ∀ {rs : List Rec} {bs : List Bool} {s : St}, bs.length = rs.length → (∀ b ∈ bs, b = true) → foldL rs bs s = foldAll rs s
  | [], bs, s, h, _ => by cases bs <;> simp [foldL, foldAll]
  | r :: rs, [], s, h, _ => by simp at h
  | r :: rs, b :: bs, s, h, hb => by
    have : b = true := hb b (List.mem_cons_self ..)
    subst this
    simp only [foldL, foldAll, List.foldl_cons]
    exact foldL_true (by simpa using h) fun b hb' => hb b (List.mem_cons_of_mem _ hb')
theorem foldL_false : ∀ {rs : List Rec} {bs : List Bool} {s : St}, (∀ b ∈ bs, b = false) → foldL rs bs s = s
  | [], _, _, _ => by simp [foldL]
  | r :: rs, [], _, _ => by simp [foldL]
  | r :: rs, b :: bs, s, hb => by
    have : b = false := hb b (List.mem_cons_self ..)
    subst this
    simp only [foldL]
    exact foldL_false fun b hb' => hb b (List.mem_cons_of_mem _ hb')
theorem foldAll_next : ∀ (rs : List Rec) (s : St), (foldAll rs s).next = s.next
  | [], _ => rfl
  | r :: rs, s => by
    simp only [foldAll, List.foldl_cons]
    exact (foldAll_next rs (s.app r)).trans (app_next s r)

theorem runDraw_sound {E : Env} (hE : EnvOK E) {cx : Cx} (hP : cx.P = E.P) {ops : Array Oper} {Q : Exit → Act → World → Prop} {φ : Phi} {st st' : St} {a : Act} {w : World} {vc : List Prop}
    (hI : Inv st.tmps) (R : RelF cx φ st a w) (hF : FreshFrom cx st st.next) (h : runDraw E ops st = some (vc, st')) (hvc : ∀ p ∈ vc, p)
    (hQ : ∀ a' w' φ', RelF cx φ' st' a' w' → FreshFrom cx st' st'.next → Q .normal a' w') : wpAny cx.P .any ops Q ops.size (Array.replicate ops.size false) a w := by
  unfold runDraw at h
  split at h
  · rename_i vc' recs st1 hrec
    split at h
    · rename_i hpairs'
      have hpairs := hpairs'.1
      cases h
      obtain ⟨q1, q2, q3⟩ := recsV_spec (ops := ops) (n0 := st.next) (st0 := st) ops.toList [] vc recs st1 (fun i r hi => by simp at hi) (by simpa [foldAll] using hI) (fun i => by simp) (by simpa [foldAll] using hrec) hvc
      have hlen : recs.length = ops.size := by simpa using q1
      -- the facts on two of them
      have hpair : ∀ {i j : Nat} {x y : Rec}, i < j → recs[i]? = some x → recs[j]? = some y → noM x y.n = true ∧ (y.pre.getD i false = true ∨ (quietB x y = true ∧ quietB y x = true ∧ commB x y = true ∧ noM y x.n = true)) := by
        intro i j x y h1 h2 h3
        have := pairs_spec hpairs h1 h2 h3
        simp only [pairB, Bool.and_eq_true, Bool.or_eq_true, Nat.zero_add] at this
        exact ⟨this.1, this.2.imp id fun h => ⟨h.1.1.1, h.1.1.2, h.1.2, h.2⟩⟩
      have hnoM : ∀ {x : Rec} {m n : Nat}, noM x n = true → n ≤ m → m < n + 8 → m ∉ touch x.e ∧ m ∉ x.av.allIds := by
        intro x m n h1 h2 h3
        simp only [noM, Bool.and_eq_true, List.all_eq_true, Bool.not_eq_true', inR, Bool.and_eq_false_iff, decide_eq_false_iff_not] at h1
        refine ⟨fun h => ?_, fun h => ?_⟩
        · rcases h1.1 m h with h4 | h4 <;> omega
        · rcases h1.2 m h with h4 | h4 <;> omega
      have hfresh : ∀ i, i ≤ recs.length → FreshFrom cx (foldAll (recs.take i) st) (st.next + 8 * i) := by
        intro i
        induction i with
        | zero => intro _; simpa [foldAll] using hF
        | succ i ih =>
          intro hi
          have hir : i < recs.length := by omega
          obtain ⟨o, vco, g1, g2, g3, g4⟩ := q3 i recs[i] (List.getElem?_eq_getElem hir)
          obtain ⟨_, _, _, _, _, s6, _⟩ := recV_spec g2
          have hlt : recs[i].av.ltB (st.next + 8 * i + 8) = true ∧ Eff.ltB (st.next + 8 * i + 8) recs[i].e = true := by
            exact opG_lt s6
          have e : foldAll (recs.take (i + 1)) st = (foldAll (recs.take i) st).app recs[i] := by
            unfold foldAll
            rw [List.take_succ_eq_append_getElem hir, List.foldl_append]
            rfl
          rw [e]
          exact (ih (by omega)).put hlt.1 hlt.2
      -- the order's invariant
      have main : ∀ (fuel : Nat) (listed : Array Bool) (a : Act) (w : World), listed.size = ops.size → listed.toList.count false = fuel →
          (∀ (j : Nat) (y : Rec), recs[j]? = some y → listed[j]? = some true → ∀ i, y.pre.getD i false = true → listed[i]? = some true) → (∃ φ, RelF cx φ (foldL recs listed.toList st) a w) → wpAny cx.P .any ops Q fuel listed a w := by
        intro fuel
        -- when none is ready, all are listed
        have hall : ∀ (listed : Array Bool), listed.size = ops.size → Region.ready .any ops listed = [] → ∀ b ∈ listed.toList, b = true := by
          intro listed hsz hr
          have hk : ∀ k, (hk : k < ops.size) → listed[k]? = some true := by
            intro k
            induction k using Nat.strongRecOn with
            | _ k ih =>
              intro hk
              by_cases hb : listed[k]? = some true
              · exact hb
              · exfalso
                have hkl : k < listed.size := by omega
                have hv : listed[k]? = some false := by
                  rw [Array.getElem?_eq_getElem hkl] at hb ⊢
                  cases hv : listed[k] with
                  | true => exact (hb (by rw [hv])).elim
                  | false => rfl
                have hrk : k < recs.length := by omega
                obtain ⟨o, vco, g1, g2, g3, g4⟩ := q3 k recs[k] (List.getElem?_eq_getElem hrk)
                have : k ∈ Region.ready .any ops listed := by
                  unfold Region.ready
                  rw [List.mem_filter]
                  refine ⟨List.mem_range.2 hk, ?_⟩
                  have e1 : listed.getD k true = false := by
                    rw [Array.getD_eq_getD_getElem?, hv]; rfl
                  rw [e1, g1]
                  simp only [Bool.not_false, Option.map_some, Option.getD_some, Bool.true_and]
                  rw [Array.all_eq_true_iff_forall_mem]
                  intro e he
                  simp only [backB, List.all_eq_true, Bool.or_eq_true, Bool.not_eq_true', decide_eq_true_eq] at g4
                  rcases g4 e (by simpa using he) with h1 | h1
                  · rw [h1]; rfl
                  · have := ih e.on h1 (by omega)
                    rw [Array.getD_eq_getD_getElem?, this]
                    simp
                rw [hr] at this
                cases this
          intro b hb
          obtain ⟨i, hi⟩ := List.mem_iff_getElem?.1 hb
          have hi' : i < listed.toList.length := (List.getElem?_eq_some_iff.1 hi).1
          have := hk i (by simp at hi'; omega)
          rw [← Array.getElem?_toList, hi] at this
          cases this
          rfl
        have hdone : ∀ (listed : Array Bool) (a : Act) (w : World), listed.size = ops.size → (∀ b ∈ listed.toList, b = true) → (∃ φ, RelF cx φ (foldL recs listed.toList st) a w) → Q .normal a w := by
          intro listed a w hsz hb hR
          obtain ⟨φ, R⟩ := hR
          rw [foldL_true (by simp [hsz, hlen]) hb, ← q2] at R
          refine hQ a w φ ⟨R.size, R.df, R.tm, R.rg, R.sep, R.fr, R.io, R.kp, R.hB, R.bs⟩ ?_
          intro m hm
          have hm' : st.next + 8 * ops.size ≤ m := by have h9 : st.next + 512 ≤ m := hm; have := hpairs'.2; omega
          have := hfresh recs.length (Nat.le_refl _) m (by rw [hlen]; exact hm')
          rw [List.take_length, ← q2] at this
          exact this
        induction fuel with
        | zero =>
          intro listed a w hsz hcnt hcl hR
          have hb : ∀ b ∈ listed.toList, b = true := by
            intro b hb
            cases b with
            | true => rfl
            | false => exact (List.count_eq_zero.1 hcnt hb).elim
          refine ⟨?_, hdone listed a w hsz hb hR⟩
          unfold Region.ready
          rw [List.filter_eq_nil_iff]
          intro k hk
          have hk' : k < listed.size := by rw [hsz]; exact List.mem_range.1 hk
          have : listed[k]? = some true := by
            rw [Array.getElem?_eq_getElem hk']
            rw [hb listed[k] (by simp)]
          rw [Array.getD_eq_getD_getElem?, this]
          simp
        | succ fuel ih =>
          intro listed a w hsz hcnt hcl hR
          refine ⟨fun hr => hdone listed a w hsz (hall listed hsz hr) hR, fun i hi => ?_⟩
          unfold Region.ready at hi
          rw [List.mem_filter] at hi
          obtain ⟨hi1, hi2⟩ := hi
          have hi1 := List.mem_range.1 hi1
          simp only [Bool.and_eq_true, Bool.not_eq_true'] at hi2
          obtain ⟨hi2, hi3⟩ := hi2
          have hil : listed[i]? = some false := by
            have hlt : i < listed.size := by omega
            rw [Array.getD_eq_getD_getElem?, Array.getElem?_eq_getElem hlt] at hi2
            rw [Array.getElem?_eq_getElem hlt]
            exact congrArg some hi2
          have hir : i < recs.length := by omega
          obtain ⟨o, vco, g1, g2, g3, g4⟩ := q3 i recs[i] (List.getElem?_eq_getElem hir)
          obtain ⟨s1, s2, s3, s4, s5, s6, s7, s8, s9, s10⟩ := recV_spec g2
          generalize hr : recs[i] = r at *
          have hri : recs[i]? = some r := by rw [List.getElem?_eq_getElem hir, hr]
          rw [g1] at hi3
          simp only [Option.map_some, Option.getD_some] at hi3
          rw [Array.all_eq_true_iff_forall_mem] at hi3
          -- all before it are listed
          have hpre : ∀ j, r.pre.getD j false = true → listed[j]? = some true := by
            intro j hj
            rw [s5] at hj
            obtain ⟨e, e1, e2, e3⟩ := preOf_spec hj
            have he := hi3 e (by simpa using e1)
            rw [e2] at he
            simp only [Bool.not_true, Bool.false_or] at he
            have hel : listed[e.on]? = some true := by
              rw [Array.getD_eq_getD_getElem?] at he
              cases hl : listed[e.on]? with
              | none => rw [hl] at he; cases he
              | some b => rw [hl] at he; simp only [Option.getD_some] at he; rw [he]
            rcases e3 with e3 | ⟨r', e3, e4⟩
            · rw [e3]; exact hel
            · refine hcl e.on r' ?_ hel j e4
              rw [List.getElem?_take] at e3
              split at e3
              · exact e3
              · cases e3
          obtain ⟨φ, R⟩ := hR
          have hafter : ∀ (j : Nat) (y : Rec), i < j → recs[j]? = some y → listed.toList[j]? = some true → quietB r y = true ∧ quietB y r = true ∧ commB r y = true ∧ noM y r.n = true := by
            intro j y h1 h2 h3
            rcases (hpair h1 hri h2).2 with h4 | h4
            · have := hcl j y h2 (by simpa using h3) i h4
              rw [hil] at this; cases this
            · exact h4
          have hil' : listed.toList[i]? = some false := by simpa using hil
          have hsees := sees_here (y := r) (rs := recs) (bs := listed.toList) (i := i) (Sees.refl r st) hri hil'
            (fun j x h1 h2 => by
              refine ⟨?_, ?_⟩
              · rcases (hpair h1 h2 hri).2 with h4 | h4
                · exact .inl (by simpa using hpre j h4)
                · exact .inr h4.1
              · obtain ⟨o', vc', k1, k2, _, _⟩ := q3 j x h2
                exact fun q g hq => ((recV_spec k2).2.2.2.2.2.2.2.2.2 q g hq).2.1) (fun j x h1 h2 h3 => by
              refine ⟨(hafter j x h1 h2 h3).2.1, fun q g hq hq2 rs => ?_⟩
              obtain ⟨o', vc', k1, k2, _, _⟩ := q3 j x h2
              rw [shpAt_congr (look_app_touch (rs' := (foldAll (recs.take j) st).regs) hq2)]
              exact ((recV_spec k2).2.2.2.2.2.2.2.2.2 q g hq).2.2)
          generalize hS : foldL recs listed.toList st = S at *
          have hop : opG E ops S.tmps (restr r.ids S.regs) (st.next + 8 * i) o = some (vco, r.av, r.e) := by
            rw [← s6, opG_local (tm2 := (foldAll (recs.take i) st).tmps) (fun t ht => hsees.1 t (by rw [s1]; exact ht))]
            by_cases hsoft : r.soft = true
            · obtain ⟨t1, t2⟩ := s9 hsoft
              have hard : ∀ q ∈ r.ids, Shp2 (look (foldAll (recs.take i) st).regs q) (look S.regs q) := fun q hq => by
                have := hsees.2.1 q hq
                rw [if_pos hsoft] at this
                obtain ⟨u1, u2⟩ := t2 q hq
                obtain ⟨g, hg⟩ := Option.isSome_iff_exists.1 u1
                exact shp2_of u1 (by rw [hg]; exact this g (by rw [u2, hg]) hg)
              refine (opG_soft t1 fun q hq => ?_).symm
              rw [← s1, ← s2] at hq
              rw [look_restr, look_restr, if_pos hq, if_pos hq]
              exact hard q hq
            · rw [restr_local (rs2 := (foldAll (recs.take i) st).regs) fun q hq => by
                have := hsees.2.1 q hq
                rw [if_neg hsoft] at this
                exact this]
          have hfr : ∀ k, k < 8 → FreshN cx S (st.next + 8 * i + k) := by
            intro k hk
            rw [← hS]
            refine fresh_foldL (hF _ (by omega)) fun j x h1 h2 => ?_
            rcases Nat.lt_trichotomy j i with h3 | h3 | h3
            · have := (hpair h3 h1 hri).1
              rw [s4] at this
              exact hnoM this (by omega) (by omega)
            · subst h3; rw [hil'] at h2; cases h2
            · have := (hafter j x h3 h1 h2).2.2.2
              rw [s4] at this
              exact hnoM this (by omega) (by omega)
          refine opG_does hE (cx := cxIn cx φ S r.ids w) hP (R.into r.ids) (fun k hk => (hfr k hk).into r.ids) g1 hop g3 (fun V w' φ' R' hav => ?_)
          obtain ⟨φ2, R2, hav2⟩ := R.outof hfr R' (fun s hs => by
            rcases s7 s hs with ⟨h1, h2⟩ | h1
            · refine .inl ⟨h1, ?_⟩
              have h3 := hsees.2.1 s h1
              by_cases hsoft : r.soft = true
              · rw [if_pos hsoft] at h3
                obtain ⟨u1, u2⟩ := (s9 hsoft).2 s h1
                obtain ⟨g, hg⟩ := Option.isSome_iff_exists.1 u1
                have := h3 g (by rw [u2, hg]) hg
                unfold shpAt at this
                split at this
                · rename_i q; rw [q]; rfl
                · rename_i q; rw [q]; rfl
                · cases this
              · rw [if_neg hsoft] at h3
                rw [h3]; exact h2
            · exact .inr h1)
          have R3 := R2.put (dst := o.dst) (hav2 r.av V s8 hav)
          rw [← s3] at R3 ⊢
          refine ih (listed.setIfInBounds i true) _ w' (by simp [hsz]) ?_ ?_ ⟨φ2, ?_⟩
          · have := count_set hil'
            rw [Array.toList_setIfInBounds]
            omega
          · intro j y h1 h2 k hk
            have hkeep : ∀ k : Nat, listed[k]? = some true → (listed.setIfInBounds i true)[k]? = some true := by
              intro k h
              rw [Array.getElem?_setIfInBounds]
              split
              · rename_i e; subst e; rw [hil] at h; cases h
              · exact h
            rw [Array.getElem?_setIfInBounds] at h2
            split at h2
            · rename_i e
              subst e
              rw [hri] at h1
              cases h1
              exact hkeep k (hpre k hk)
            · exact hkeep k (hcl j y h1 h2 k hk)
          · rw [Array.toList_setIfInBounds]
            refine R3.eqv ?_
            rw [← hS]
            exact foldL_set hri hil' fun j y h1 h2 h3 => (hafter j y h1 h2 h3).2.2.1
      refine main ops.size _ a w (by simp) (by simp) ?_ ⟨φ, ?_⟩
      · intro j y h1 h2
        rw [Array.getElem?_replicate] at h2
        split at h2 <;> simp at h2
      · rw [foldL_false (by simp)]
        exact R
    · cases h
  · cases h

end Go.Lift
/- Code, abstract: what must hold for what is to come, and that the machine comes to it. -/
namespace Go.Lift
open Go

def AExit.conv : AExit → Exit
  | .normal => .normal
  | .exit id => .exit id
  | .ret => .ret

structure condP (c : Bool) (p q : Prop) : Prop where
  t : c = true → p
  f : c = false → q
structure condQ (e neg : Bool) (p q : Prop) : Prop where
  t : ((true != neg) = true → e = true) → p
  f : ((false != neg) = true → e = true) → q
/-- What a run that cannot be told stops at (nothing holds there). -/
inductive BadRegion (E : Env) (ops : Array Oper) (draw : Bool) (st : St) : Prop
inductive BadCond (st : St) : Prop
inductive BadCode (c : Code) : Prop
inductive BadNorm (ts : List Tmp) (st : St) : Prop
inductive BadHead (b : Nat) (st : St) : Prop
inductive BadLoop (b : Nat) (st : St) (K : AExit → St → Prop) : Prop
inductive BadRound (b : Nat) (e : AExit) (st : St) : Prop
def andAll : List Prop → Prop → Prop
  | [], p => p
  | q :: qs, p => q ∧ andAll qs p
theorem andAll_spec : ∀ {l : List Prop} {p : Prop}, andAll l p → (∀ q ∈ l, q) ∧ p
  | [], _, h => ⟨by simp, h⟩
  | q :: l, p, h => by
    obtain ⟨h1, h2⟩ := andAll_spec h.2
    exact ⟨fun r hr => by rcases List.mem_cons.1 hr with hr | hr; exact hr ▸ h.1; exact h1 r hr, h2⟩

def runRegion (E : Env) (ops : Array Oper) (draw : Bool) (st : St) : Option (List Prop × St) :=
  if draw = true then runDraw E ops st
  else match runSeq E ops ops.toList st.next st with
    | some (vc, st') => if ops.size ≤ 64 then some (vc, bumpSt st st' 512) else none
    | none => none

def nrmAt (E : Env) (b : Nat) (st : St) : Option St := norm E.nio (E.head b).1 (ownNil (E.head b).2 st)
def aft (E : Env) (id : Nat) (K : AExit → St → Prop) (st : St) : Prop :=
  match E.after id with
  | some ts => match norm E.nio ts st with
    | some st => K .normal st
    | none => BadNorm ts st
  | none => K .normal st

def loopP (E : Env) (b : Nat) (K : AExit → St → Prop) (st : St) : Prop :=
  match nrmAt E b st with
  | some st0 => match E.loops b with
    | some L => L.enter st0 K
    | none => BadLoop b st0 K
  | none => BadHead b st
def awp (E : Env) : Code → Nat → (AExit → St → Prop) → St → Prop
  | .skip, _, K, st => K .normal st
  | .label _, _, K, st => K .normal st
  | .region _ ops draw, _, K, st => forceSt (cleanSt st) fun st => match runRegion E ops draw st with
    | some (vc, st') => andAll vc (K .normal st')
    | none => BadRegion E ops draw st
  | .seq x y, b, K, st => awp E x b (fun e st' => match e with
      | .normal => awp E y b K st'
      | .exit id => K (.exit id) st'
      | .ret => K .ret st') st
  | .cond c x y, b, K, st => match rawV st.tmps c with
    | some (vc, .val .bool v) => andAll vc (condP v (awp E x b K st) (awp E y b K st))
    | some (vc, .nilq e neg) => andAll vc (condQ e neg (awp E x b K st) (awp E y b K st))
    | _ => BadCond st
  | .block id c, _, K, st => awp E c id (fun e st' => match e with
      | .normal => aft E id K st'
      | .exit id' => if id' = id then aft E id K st' else K (.exit id') st'
      | .ret => K .ret st') st
  | .loop _, b, K, st => loopP E b K st
  | .exit id, _, K, st => K (.exit id) st
  | .ret, _, K, st => K .ret st
  | c, _, _, _ => BadCode c

/-- What a loop's telling stands on: one round. -/
def roundP (E : Env) (b : Nat) (L : Loop) (m : Nat) (K : AExit → St → Prop) (e : AExit) (st : St) : Prop :=
  match e with
  | .normal => match nrmAt E b st with
    | some st2 => L.again m st2 K
    | none => BadHead b st
  | e => match norm E.nio (E.leave b) st with
    | some st2 => K e st2
    | none => BadRound b e st
def LoopOK (E : Env) (b : Nat) (c : Code) (L : Loop) : Prop :=
  ∀ x y K, L.pre x y → L.out x y K → awp E c b (roundP E b L (L.m x y) K) (L.abs x y)
def loopList : Code → Nat → List (Nat × Code)
  | .seq x y, b => loopList x b ++ loopList y b
  | .cond _ x y, b => loopList x b ++ loopList y b
  | .block id c, _ => loopList c id
  | .loop c, b => (b, c) :: loopList c b
  | _, _ => []
def loopsAll (E : Env) : List (Nat × Code) → Prop
  | [] => True
  | (b, c) :: l => (match E.loops b with
    | some L => LoopOK E b c L
    | none => True) ∧ loopsAll E l
theorem loopsAll_append {E : Env} : ∀ {l l' : List (Nat × Code)}, loopsAll E (l ++ l') → loopsAll E l ∧ loopsAll E l'
  | [], _, h => ⟨trivial, h⟩
  | (_, _) :: l, l', h => by
    obtain ⟨h1, h2⟩ := h
    obtain ⟨h3, h4⟩ := loopsAll_append (l := l) h2
    exact ⟨⟨h1, h3⟩, h4⟩

def RelN (cx : Cx) (st : St) (a : Act) (w : World) : Prop := (∃ φ, RelF cx φ st a w) ∧ FreshFrom cx st st.next

theorem wp_loop_n {P : Program} {Q : Exit → Act → World → Prop} {c : Code} (I : Nat → Act → World → Prop) {a : Act} {w : World} {n : Nat} (h₀ : I n a w)
    (round : ∀ n a w, I n a w → c.wp P (Exit.then (fun a' w' => ∃ m, m < n ∧ I m a' w') Q) a w) : (Code.loop c).wp P Q a w := by
  intro b k cs
  have key : ∀ n a w, I n a w → ∃ e a' w', Q e a' w' ∧ Arrives P (lone (b.at a (.code c :: .inLoop c :: k)) cs w) b k cs e a' w' := by
    intro n
    induction n using Nat.strongRecOn with
    | _ n ih =>
      intro a w hI
      obtain ⟨e, a₁, w₁, hq, harr⟩ := round n a w hI b (.inLoop c :: k) cs
      cases e with
      | normal =>
        obtain ⟨m, hm, hI₁⟩ := hq
        obtain ⟨e₂, a₂, w₂, hq₂, harr₂⟩ := ih m hm a₁ w₁ hI₁
        exact ⟨e₂, a₂, w₂, hq₂, .of_steps (Steps.trans harr (.one step_inLoop)) harr₂⟩
      | exit id => exact ⟨_, a₁, w₁, hq, .pass (x := .inLoop c) rfl (fun _ _ => .inl (by simp)) harr⟩
      | goto l => exact ⟨_, a₁, w₁, hq, .pass (x := .inLoop c) rfl (fun _ _ => .inl (by simp)) harr⟩
      | ret => exact ⟨_, a₁, w₁, hq, .pass (x := .inLoop c) rfl (fun _ _ => .inl (by simp)) harr⟩
      | panic ch => exact ⟨_, a₁, w₁, hq, .pass (x := .inLoop c) rfl (fun _ _ => .inl (by simp)) harr⟩
      | outgrown => exact ⟨_, a₁, w₁, hq, .pass (x := .inLoop c) rfl (fun _ _ => .inl (by simp)) harr⟩
  obtain ⟨e, a', w', hq, harr⟩ := key n a w h₀
  exact ⟨e, a', w', hq, .of_steps (.one step_loop) harr⟩

theorem RelN.norm {cx : Cx} {st st' : St} {a : Act} {w : World} (R : RelN cx st a w) {nio : Nat} (hio : ∀ r l, (r, l) ∈ cx.io → r < nio) {ts : List Tmp} (h : norm nio ts st = some st') : RelN cx st' a w := by
  obtain ⟨⟨φ, R⟩, _⟩ := R
  exact norm_sound R hio h
theorem RelN.wk {cx : Cx} {st : St} {a : Act} {w : World} (L : Loop) (R : RelN cx st a w) : RelN cx (wkSt L st) a w := by
  obtain ⟨⟨φ, R⟩, hF⟩ := R
  have h := wkRg_wk st.tmps L.rs st.regs
  exact ⟨⟨φ, RelF.wk h R⟩, fun m hm => ⟨⟨h.none (hF m hm).1.1, (hF m hm).1.2⟩, (hF m hm).2⟩⟩
theorem RelN.nrmAt {cx : Cx} {st st' : St} {a : Act} {w : World} (R : RelN cx st a w) {E : Env} (hio : ∀ r l, (r, l) ∈ cx.io → r < E.nio) {b : Nat} (h : nrmAt E b st = some st') : RelN cx st' a w := by
  obtain ⟨⟨φ, R⟩, hF⟩ := R
  obtain ⟨⟨φ', R'⟩, _⟩ := ownNil_sound (E.head b).2 R hF
  exact norm_sound R' hio h

theorem runRegion_sound {E : Env} (hE : EnvOK E) {cx : Cx} (hP : cx.P = E.P) {st st' : St} (hI : Inv st.tmps) {a : Act} {w : World} (R : RelN cx st a w) {id : Nat} {ops : Array Oper} {draw : Bool} {vc : List Prop}
    (h : runRegion E ops draw st = some (vc, st')) (hvc : ∀ p ∈ vc, p) {Q : Exit → Act → World → Prop} (hQ : ∀ a' w', RelN cx st' a' w' → Q .normal a' w') : (Code.region id ops draw).wp cx.P Q a w := by
  unfold runRegion at h
  split at h
  · rename_i hd
    subst hd
    obtain ⟨⟨φ, R⟩, hF⟩ := R
    refine wp_region_any (by rw [hP]; exact hE.2) ?_
    exact runDraw_sound hE hP hI (R.heap (w' := { w with drawn := w.drawn + 1 }) rfl rfl rfl rfl) hF h hvc (fun a' w' φ' R' hF' => hQ a' w' ⟨⟨φ', R'⟩, hF'⟩)
  · rename_i hd
    have hd' : draw = false := by simpa using hd
    subst hd'
    split at h
    · rename_i vc' st2 hr
      split at h
      case isFalse => cases h
      rename_i hsz
      cases h
      obtain ⟨⟨φ, R⟩, hF⟩ := R
      refine wp_region ?_
      have := runSeq_sound (Q := Q) hE hP ops.toList 0 st.next st st2 φ a w vc (fun i => by simp) (by simp) hI R hF hr hvc (fun a' w' φ' R' hF' => hQ a' w' ⟨⟨φ', ⟨R'.size, R'.df, R'.tm, R'.rg, R'.sep, R'.fr, R'.io, R'.kp, R'.hB, R'.bs⟩⟩, ?_⟩)
      · simpa [List.range_eq_range'] using this
      · intro m hm
        have hm' : st.next + 8 * ops.size ≤ m := by have h9 : st.next + 512 ≤ m := hm; omega
        exact hF' m (by simpa using hm')
    · cases h

theorem awp_sound {E : Env} (hE : EnvOK E) {cx : Cx} (hP : cx.P = E.P) (hio : ∀ r l, (r, l) ∈ cx.io → r < E.nio) : ∀ (c : Code) (b : Nat) (K : AExit → St → Prop) (st : St) (a : Act) (w : World) (Q : Exit → Act → World → Prop),
    loopsAll E (loopList c b) → awp E c b K st → RelN cx st a w → (∀ e st' a' w', K e st' → RelN cx st' a' w' → Q e.conv a' w') → c.wp cx.P Q a w := by
  intro c
  induction c with
  | skip => intro b K st a w Q hl h R hQ; exact wp_skip (hQ .normal st a w h R)
  | label l => intro b K st a w Q hl h R hQ; exact wp_label (hQ .normal st a w h R)
  | exit id => intro b K st a w Q hl h R hQ; exact wp_exit (hQ (.exit id) st a w h R)
  | ret => intro b K st a w Q hl h R hQ; exact wp_ret (hQ .ret st a w h R)
  | region id ops draw =>
    intro b K st a w Q hl h R hQ
    simp only [awp, forceSt_eq] at h
    split at h
    · rename_i vc st' hr
      obtain ⟨hvc, hK⟩ := andAll_spec h
      exact runRegion_sound hE hP (cleanSt_inv st) ⟨⟨R.1.choose, R.1.choose_spec.clean⟩, R.2.clean⟩ hr hvc (fun a' w' R' => hQ .normal st' a' w' hK R')
    · exact nomatch h
  | seq x y ihx ihy =>
    intro b K st a w Q hl h R hQ
    obtain ⟨hlx, hly⟩ := loopsAll_append hl
    refine wp_seq (ihx b _ st a w _ hlx h R (fun e st' a' w' hK R' => ?_))
    cases e with
    | normal => exact ihy b K st' a' w' Q hly hK R' hQ
    | exit id => exact hQ (.exit id) st' a' w' hK R'
    | ret => exact hQ .ret st' a' w' hK R'
  | cond c x y ihx ihy =>
    intro b K st a w Q hl h R hQ
    simp only [awp] at h
    split at h
    · rename_i vc v hr
      obtain ⟨hvc, hK⟩ := andAll_spec h
      obtain ⟨hlx, hly⟩ := loopsAll_append hl
      obtain ⟨⟨φ, R0⟩, hF⟩ := id R
      have hC := VRel.bool_eq (rawV_sound R0 hr hvc)
      refine wp_cond hC ?_
      cases hv : v with
      | true => rw [if_pos rfl]; exact ihx b K st a w Q hlx (hK.t hv) R hQ
      | false => rw [if_neg (by simp)]; exact ihy b K st a w Q hly (hK.f hv) R hQ
    · rename_i vc e neg hr
      obtain ⟨hvc, hK⟩ := andAll_spec h
      obtain ⟨hlx, hly⟩ := loopsAll_append hl
      obtain ⟨⟨φ, R0⟩, hF⟩ := id R
      obtain ⟨v, hC, hv⟩ := rawV_sound R0 hr hvc
      refine wp_cond hC ?_
      cases v with
      | true => rw [if_pos rfl]; exact ihx b K st a w Q hlx (hK.t hv) R hQ
      | false => rw [if_neg (by simp)]; exact ihy b K st a w Q hly (hK.f hv) R hQ
    · exact nomatch h
  | block id c ih =>
    intro b K st a w Q hl h R hQ
    have haft : ∀ st' a' w', aft E id K st' → RelN cx st' a' w' → Q .normal a' w' := by
      intro st' a' w' hK R'
      unfold aft at hK
      split at hK
      · split at hK
        · rename_i ts _ st2 hn
          exact hQ .normal st2 a' w' hK (R'.norm hio hn)
        · exact nomatch hK
      · exact hQ .normal st' a' w' hK R'
    refine wp_block (ih id _ st a w _ hl h R (fun e st' a' w' hK R' => ?_))
    cases e with
    | normal => exact haft st' a' w' hK R'
    | exit id' =>
      simp only [AExit.conv, Exit.inBlock]
      simp only at hK
      split
      · rename_i e; rw [if_pos e] at hK; exact haft st' a' w' hK R'
      · rename_i e; rw [if_neg e] at hK; exact hQ (.exit id') st' a' w' hK R'
    | ret => exact hQ .ret st' a' w' hK R'
  | loop c ih =>
    intro b K st a w Q hl h R hQ
    simp only [awp, loopP] at h
    split at h
    · rename_i st0 hn
      split at h
      · rename_i L hL
        obtain ⟨x0, y0, he0, hp0, ho0⟩ := Loop.enter_spec h
        obtain ⟨hl1, hl2⟩ := hl
        rw [hL] at hl1
        refine wp_loop_n (fun n a w => ∃ x y, L.m x y = n ∧ L.pre x y ∧ L.out x y K ∧ RelN cx (L.abs x y) a w) ⟨x0, y0, rfl, hp0, ho0, he0 ▸ (R.nrmAt hio hn).wk L⟩ (fun n a w hI => ?_)
        obtain ⟨x, y, hm, hp, ho, R1⟩ := hI
        refine ih b _ (L.abs x y) a w _ hl2 (hl1 x y K hp ho) R1 (fun e st' a' w' hK R' => ?_)
        cases e with
        | normal =>
          simp only [roundP] at hK
          split at hK
          · rename_i st2 hn2
            obtain ⟨x2, y2, he2, hp2, hm2, ho2⟩ := Loop.again_spec hK
            exact ⟨L.m x2 y2, hm ▸ hm2, x2, y2, rfl, hp2, ho2, he2 ▸ (R'.nrmAt hio hn2).wk L⟩
          · exact nomatch hK
        | exit id =>
          simp only [roundP] at hK
          split at hK
          · rename_i st2 hn2; exact hQ (.exit id) st2 a' w' hK (R'.norm hio hn2)
          · exact nomatch hK
        | ret =>
          simp only [roundP] at hK
          split at hK
          · rename_i st2 hn2; exact hQ .ret st2 a' w' hK (R'.norm hio hn2)
          · exact nomatch hK
      · exact nomatch h
    · exact nomatch h
  | rangeFunc => intro b K st a w Q hl h R hQ; exact nomatch h
  | scope => intro b K st a w Q hl h R hQ; exact nomatch h
  | goto => intro b K st a w Q hl h R hQ; exact nomatch h
  | refuse => intro b K st a w Q hl h R hQ; exact nomatch h

end Go.Lift
