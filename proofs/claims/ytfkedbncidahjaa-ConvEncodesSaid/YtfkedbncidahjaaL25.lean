/- A region whose order is drawn. -/
import Derived.Test.YtfkedbncidahjaaL24
set_option linter.unusedVariables false
set_option linter.unusedSimpArgs false
namespace Go.Lift
open Go

structure Rec where
  rd : List Tmp
  ids : List Nat
  dst : Option Tmp
  av : AV
  e : Eff
  n : Nat
  pre : List Bool
  soft : Bool
  shp : List (Nat × (Bool × Ty))
  keep : List (Nat × (Bool × Ty))
def St.app (st : St) (r : Rec) : St := ({ st with regs := r.e.app st.regs } : St).put r.dst r.av

def guardT (ops : Array Oper) (o : Oper) : List Tmp :=
  match o.guard with
  | some (j, _) => ((ops[j]?).bind (·.dst)).toList
  | none => []
def readsT (ops : Array Oper) (o : Oper) : List Tmp := tmpsOf o.op.operands.toList ++ guardT ops o
def allIdsAt (ts : List Tmp) (tm : List AV) : List Nat := ts.flatMap fun t => match tm[t]? with
  | some v => v.allIds
  | none => []
def inR (n r : Nat) : Bool := decide (n ≤ r) && decide (r < n + 8)

/-- The shape of a region: a row, or a struct; of which type. -/
def shpAt (rs : Regs) (r : Nat) : Option (Bool × Ty) :=
  match look rs r with
  | some (.row t _) => some (true, t)
  | some (.box t _) => some (false, t)
  | _ => none
/-- An operation that reads no more of its regions than their shapes. -/
def isSoft (P : Program) (o : Oper) : Bool :=
  match o.op with
  | .nilCheck _ => true
  | .move _ => true
  | .assign _ => true
  | .fieldAddr _ _ _ => true
  | .indexAddr t _ _ => match P.underlying t with
    | some (.array _ _) => true
    | _ => false
  | _ => false
def lk : List (Nat × (Bool × Ty)) → Nat → Option (Bool × Ty)
  | [], _ => none
  | (k, g) :: l, r => if k = r then some g else lk l r
def shpsOf (rs : Regs) : List Nat → List (Nat × (Bool × Ty))
  | [] => []
  | r :: l => match shpAt rs r with
    | some g => (r, g) :: shpsOf rs l
    | none => shpsOf rs l
theorem lk_shpsOf (rs : Regs) : ∀ {l : List Nat} {r : Nat}, r ∈ l → lk (shpsOf rs l) r = shpAt rs r
  | [], _, h => by simp at h
  | k :: l, r, h => by
    by_cases hkr : k = r
    · subst hkr
      simp only [shpsOf]
      cases hs : shpAt rs k with
      | some g => simp [lk]
      | none =>
        simp only
        by_cases hm : k ∈ l
        · rw [lk_shpsOf rs hm, hs]
        · clear h
          induction l with
          | nil => rfl
          | cons j l ih =>
            simp only [List.mem_cons, not_or] at hm
            simp only [shpsOf]
            cases shpAt rs j with
            | none => exact ih hm.2
            | some g => simp only [lk]; rw [if_neg (fun e => hm.1 e.symm)]; exact ih hm.2
    · have hm : r ∈ l := by rcases List.mem_cons.1 h with h | h; exact (hkr h.symm).elim; exact h
      simp only [shpsOf]
      cases hs : shpAt rs k with
      | some g => simp only [lk]; rw [if_neg hkr]; exact lk_shpsOf rs hm
      | none => exact lk_shpsOf rs hm
def keepsOf (rs rs' : Regs) : List Nat → List (Nat × (Bool × Ty))
  | [] => []
  | r :: l => match shpAt rs r, shpAt rs' r with
    | some g, some g' => if g = g' then (r, g) :: keepsOf rs rs' l else keepsOf rs rs' l
    | _, _ => keepsOf rs rs' l
theorem keepsOf_spec (rs rs' : Regs) : ∀ {l : List Nat} {r : Nat} {g : Bool × Ty}, (r, g) ∈ keepsOf rs rs' l → r ∈ l ∧ shpAt rs r = some g ∧ shpAt rs' r = some g
  | [], _, _, h => by simp [keepsOf] at h
  | k :: l, r, g, h => by
    simp only [keepsOf] at h
    split at h
    · rename_i g1 g2 h1 h2
      split at h
      · rename_i e
        subst e
        rcases List.mem_cons.1 h with h | h
        · cases h; exact ⟨List.mem_cons_self .., h1, h2⟩
        · obtain ⟨a, b⟩ := keepsOf_spec rs rs' h; exact ⟨List.mem_cons_of_mem _ a, b⟩
      · obtain ⟨a, b⟩ := keepsOf_spec rs rs' h; exact ⟨List.mem_cons_of_mem _ a, b⟩
    · obtain ⟨a, b⟩ := keepsOf_spec rs rs' h; exact ⟨List.mem_cons_of_mem _ a, b⟩
def recOf (E : Env) (ops : Array Oper) (pre : List Bool) (n : Nat) (o : Oper) (st : St) (f : List AV → Regs → Option Out) : Option (List Prop × Rec) :=
  let ts := readsT ops o
  let ids := allIdsAt ts st.tmps
  match f st.tmps (restr ids st.regs) with
  | some (vc, av, e) =>
    if (touch e).all (fun r => (ids.contains r && (look st.regs r).isSome) || inR n r) && av.allIds.all (fun r => ids.contains r || inR n r) then
      some (vc, ⟨ts, ids, o.dst, av, e, n, pre, isSoft E.P o && ids.all (fun r => (shpAt st.regs r).isSome), shpsOf st.regs ids, keepsOf st.regs (e.app st.regs) (touch e)⟩) else none
  | none => none
def recV (E : Env) (ops : Array Oper) (pre : List Bool) (n : Nat) (o : Oper) (st : St) : Option (List Prop × Rec) :=
  recOf E ops pre n o st fun tm rs => opG E ops tm rs n o
/-- The same, without what is told already. -/
def recVP (E : Env) (ops : Array Oper) (pre : List Bool) (n : Nat) (o : Oper) (st : St) : Option (List Prop × Rec) :=
  recOf E ops pre n o st fun tm rs => opGP E ops tm rs n o
theorem recVP_spec {E : Env} {ops : Array Oper} {pre : List Bool} {n : Nat} {o : Oper} {st : St} {vc' : List Prop} {r : Rec} (hI : Inv st.tmps) (h : recVP E ops pre n o st = some (vc', r)) :
    (∃ vc, recV E ops pre n o st = some (vc, r) ∧ ((∀ p ∈ vc', p) → ∀ p ∈ vc, p)) ∧ Inv (st.app r).tmps := by
  unfold recVP recOf at h
  simp only at h
  split at h
  · rename_i vc1 av e hg
    split at h
    · rename_i hc
      cases h
      obtain ⟨⟨vc, h1, h2⟩, h3⟩ := opGP_spec hI hg
      refine ⟨⟨vc, ?_, h2⟩, ?_⟩
      · unfold recV recOf
        simp only [h1]
        rw [if_pos hc]
      · unfold St.app
        simp only
        cases hd : o.dst with
        | none => exact hI
        | some d => exact h3 d hd
    · cases h
  · cases h

def orL : List Bool → List Bool → List Bool
  | [], bs => bs
  | a :: as, [] => a :: as
  | a :: as, b :: bs => (a || b) :: orL as bs
theorem orL_get : ∀ (as bs : List Bool) (j : Nat), (orL as bs).getD j false = (as.getD j false || bs.getD j false)
  | [], bs, j => by simp [orL]
  | a :: as, [], j => by simp [orL]
  | a :: as, b :: bs, 0 => by simp [orL]
  | a :: as, b :: bs, j + 1 => by
    have := orL_get as bs j
    simpa [orL] using this
def oneL : Nat → List Bool
  | 0 => [true]
  | n + 1 => false :: oneL n
theorem oneL_get : ∀ (n j : Nat), (oneL n).getD j false = true → j = n
  | 0, 0, _ => rfl
  | 0, j + 1, h => by simp [oneL] at h
  | n + 1, 0, h => by simp [oneL] at h
  | n + 1, j + 1, h => by
    have := oneL_get n j (by simpa [oneL] using h)
    omega

def forceNs {β : Sort _} : List Nat → (List Nat → β) → β
  | [], k => k []
  | n :: ns, k => forceNs ns fun ns => k (n :: ns)
def forceBs {β : Sort _} : List Bool → (List Bool → β) → β
  | [], k => k []
  | true :: ns, k => forceBs ns fun ns => k (true :: ns)
  | false :: ns, k => forceBs ns fun ns => k (false :: ns)
def forceEff {β : Sort _} : Eff → (Eff → β) → β
  | [], k => k []
  | .del r :: e, k => forceEff e fun e => k (.del r :: e)
  | .set none n g :: e, k => forceReg g fun g => forceEff e fun e => k (.set none n g :: e)
  | .set (some o) n g :: e, k => forceReg g fun g => forceEff e fun e => k (.set (some o) n g :: e)
def forceOn {β : Sort _} : Option Nat → (Option Nat → β) → β
  | none, k => k none
  | some n, k => k (some n)
def forceKs {β : Sort _} : List (Nat × (Bool × Ty)) → (List (Nat × (Bool × Ty)) → β) → β
  | [], k => k []
  | n :: ns, k => forceKs ns fun ns => k (n :: ns)
theorem forceKs_eq {β : Sort _} : ∀ (l : List (Nat × (Bool × Ty))) (k : List (Nat × (Bool × Ty)) → β), forceKs l k = k l
  | [], _ => rfl
  | n :: ns, k => by simp only [forceKs, forceKs_eq ns]
def forceRec {β : Sort _} (r : Rec) (k : Rec → β) : β :=
  match r with
  | ⟨rd, ids, dst, av, e, n, pre, soft, shp, keep⟩ => forceNs rd fun rd => forceNs ids fun ids => forceOn dst fun dst => forceAV av fun av => forceEff e fun e => forceBs pre fun pre => forceBs [soft] fun soft => forceKs shp fun shp => forceKs keep fun keep => k ⟨rd, ids, dst, av, e, n, pre, soft.headD false, shp, keep⟩
theorem forceNs_eq {β : Sort _} : ∀ (l : List Nat) (k : List Nat → β), forceNs l k = k l
  | [], _ => rfl
  | n :: ns, k => by simp only [forceNs, forceNs_eq ns]
theorem forceBs_eq {β : Sort _} : ∀ (l : List Bool) (k : List Bool → β), forceBs l k = k l
  | [], _ => rfl
  | true :: ns, k => by simp only [forceBs, forceBs_eq ns]
  | false :: ns, k => by simp only [forceBs, forceBs_eq ns]
theorem forceEff_eq {β : Sort _} : ∀ (l : Eff) (k : Eff → β), forceEff l k = k l
  | [], _ => rfl
  | .del r :: e, k => by simp only [forceEff, forceEff_eq e]
  | .set none n g :: e, k => by simp only [forceEff, forceReg_eq, forceEff_eq e]
  | .set (some o) n g :: e, k => by simp only [forceEff, forceReg_eq, forceEff_eq e]
theorem forceOn_eq {β : Sort _} (o : Option Nat) (k : Option Nat → β) : forceOn o k = k o := by cases o <;> rfl
theorem forceRec_eq {β : Sort _} (r : Rec) (k : Rec → β) : forceRec r k = k r := by
  cases r
  simp only [forceRec, forceNs_eq, forceOn_eq, forceAV_eq, forceEff_eq, forceBs_eq, forceKs_eq, List.headD_cons]

/-! ### an operation sees its own temporaries and regions alone -/
theorem argA_local {tm tm2 : List AV} {ts : List Tmp} (h : ∀ t ∈ ts, tm[t]? = tm2[t]?) : argA tm ts = argA tm2 ts := by
  funext x
  cases x with
  | tmp t =>
    simp only [argA]
    split
    · rename_i hm; rw [h t (by simpa using hm)]
    · rfl
  | _ => rfl
theorem argS_local {tm tm2 : List AV} {ts : List Tmp} (h : ∀ t ∈ ts, tm[t]? = tm2[t]?) : argS tm ts = argS tm2 ts := by
  funext x
  unfold argS
  rw [argA_local h]
theorem gdVC_local {tm tm2 : List AV} : ∀ {ts : List Tmp} (_ : ∀ t ∈ ts, tm[t]? = tm2[t]?), gdVC tm ts = gdVC tm2 ts
  | [], _ => rfl
  | t :: ts, h => by
    have ih := gdVC_local (tm := tm) (tm2 := tm2) (ts := ts) (fun t ht => h t (List.mem_cons_of_mem _ ht))
    unfold gdVC at ih ⊢
    simp only [List.flatMap_cons]
    rw [ih]
    unfold gdOf
    rw [h t (List.mem_cons_self ..)]
theorem mem_tmpsOf {l : List Operand} {t : Tmp} (h : Operand.tmp t ∈ l) : t ∈ tmpsOf l := List.mem_filterMap.2 ⟨_, h, rfl⟩
theorem rawV_local {tm tm2 : List AV} {x : Operand} (h : ∀ t, x = .tmp t → tm[t]? = tm2[t]?) : rawV tm x = rawV tm2 x := by
  cases x with
  | tmp t => simp only [rawV]; rw [h t rfl]
  | _ => rfl

theorem opPlain_local {E : Env} {tm tm2 : List AV} {rs : Regs} {n : Nat} {o : Oper} (h : ∀ t ∈ tmpsOf o.op.operands.toList, tm[t]? = tm2[t]?) : opPlain E tm rs n o = opPlain E tm2 rs n o := by
  unfold opPlain
  split
  · rename_i neg x hnt
    have hx : rawV tm x = rawV tm2 x := rawV_local fun t ht => by
      subst ht
      refine h t (mem_tmpsOf ?_)
      unfold nilTest at hnt
      split at hnt
      · rename_i ho
        split at hnt
        · cases hnt; rw [ho]; simp [Op.operands]
        · cases hnt
      · rename_i ho
        split at hnt
        · cases hnt; rw [ho]; simp [Op.operands]
        · cases hnt
      · cases hnt
    rw [hx]
  split
  · rename_i c a b ho
    have hx : ∀ x ∈ [c, a, b], rawV tm x = rawV tm2 x := fun x hx => rawV_local fun t ht => by
      subst ht
      refine h t (mem_tmpsOf ?_)
      rw [ho]
      simpa [Op.operands] using hx
    unfold pickV
    rw [hx c (by simp), hx a (by simp), hx b (by simp)]
  · rename_i f args ats ho
    have h' : ∀ t ∈ tmpsOf (f :: args.toList), tm[t]? = tm2[t]? := fun t ht => h t (by
      rw [ho]
      simpa [Op.operands, Call.operands] using ht)
    simp only [argA_local h', argS_local h', gdVC_local h']
  · simp only [argA_local h, argS_local h, gdVC_local h]

theorem guardKey_local {ops : Array Oper} {tm tm2 : List AV} {o : Oper} {j : Nat} {want : Bool} (hg : o.guard = some (j, want)) (h : ∀ t ∈ readsT ops o, tm[t]? = tm2[t]?) : guardKey ops tm j want = guardKey ops tm2 j want := by
  unfold guardKey
  cases hd : (ops[j]?).bind (·.dst) with
  | none => rfl
  | some t =>
    have := h t (List.mem_append.2 (.inr (by simp [guardT, hg, hd])))
    simp only
    rw [this]
theorem opG_local {E : Env} {ops : Array Oper} {tm tm2 : List AV} {rs : Regs} {n : Nat} {o : Oper} (h : ∀ t ∈ readsT ops o, tm[t]? = tm2[t]?) : opG E ops tm rs n o = opG E ops tm2 rs n o := by
  have h1 : opPlain E tm rs n o = opPlain E tm2 rs n o := opPlain_local fun t ht => h t (List.mem_append.2 (.inl ht))
  unfold opG opG0
  rw [h1]
  cases hg : o.guard with
  | none => rfl
  | some g =>
    obtain ⟨j, want⟩ := g
    simp only
    rw [guardKey_local hg h]

theorem restr_local {ids : List Nat} {rs rs2 : Regs} (h : ∀ r ∈ ids, look rs r = look rs2 r) : restr ids rs = restr ids rs2 := by
  induction ids with
  | nil => rfl
  | cons r ids ih =>
    have := ih fun s hs => h s (List.mem_cons_of_mem _ hs)
    unfold restr at this ⊢
    simp only [List.filterMap_cons]
    rw [h r (List.mem_cons_self ..), this]
theorem allIdsAt_local {tm tm2 : List AV} : ∀ {ts : List Tmp} (_ : ∀ t ∈ ts, tm[t]? = tm2[t]?), allIdsAt ts tm = allIdsAt ts tm2
  | [], _ => rfl
  | t :: ts, h => by
    have ih := allIdsAt_local (tm := tm) (tm2 := tm2) (ts := ts) (fun t ht => h t (List.mem_cons_of_mem _ ht))
    unfold allIdsAt at ih ⊢
    simp only [List.flatMap_cons]
    rw [ih, h t (List.mem_cons_self ..)]

/-! ### many in turn -/
def foldL : List Rec → List Bool → St → St
  | r :: rs, true :: bs, st => foldL rs bs (st.app r)
  | _ :: rs, false :: bs, st => foldL rs bs st
  | _, _, st => st
def foldAll (rs : List Rec) (st : St) : St := rs.foldl St.app st

def quietB (x y : Rec) : Bool :=
  (match x.dst with
    | some d => !y.rd.contains d
    | none => true) && (touch x.e).all (fun r => !y.ids.contains r || (y.soft && x.keep.any fun p => p.1 == r && decide (lk y.shp r = some p.2)))
def noM (x : Rec) (n : Nat) : Bool := (touch x.e).all (fun r => !inR n r) && x.av.allIds.all (fun r => !inR n r)
def commB (x y : Rec) : Bool :=
  (match x.dst, y.dst with
    | some a, some b => a != b
    | _, _ => true) && (touch x.e).all (fun r => !(touch y.e).contains r)
/-- i before j in the text; x is i's, y is j's. -/
def pairB (i : Nat) (x y : Rec) : Bool :=
  noM x y.n && (y.pre.getD i false || (quietB x y && quietB y x && commB x y && noM y x.n))
def pairs : Nat → List Rec → Bool
  | _, [] => true
  | k, x :: rs => rs.all (pairB k x) && pairs (k + 1) rs
theorem pairs_spec : ∀ {rs : List Rec} {k i j : Nat} {x y : Rec}, pairs k rs = true → i < j → rs[i]? = some x → rs[j]? = some y → pairB (k + i) x y = true
  | [], _, i, _, _, _, _, _, hi, _ => by simp at hi
  | x0 :: rs, k, i, j, x, y, h, hij, hi, hj => by
    simp only [pairs, Bool.and_eq_true, List.all_eq_true] at h
    cases j with
    | zero => omega
    | succ j =>
      simp only [List.getElem?_cons_succ] at hj
      cases i with
      | zero =>
        simp only [List.getElem?_cons_zero, Option.some.injEq] at hi
        subst hi
        exact h.1 y (List.mem_of_getElem? hj)
      | succ i =>
        simp only [List.getElem?_cons_succ] at hi
        have := pairs_spec (rs := rs) (k := k + 1) h.2 (by omega) hi hj
        rwa [show k + 1 + i = k + (i + 1) from by omega] at this

def Eqv (s s' : St) : Prop := s.tmps = s'.tmps ∧ ∀ r, look s.regs r = look s'.regs r
theorem Eqv.refl (s : St) : Eqv s s := ⟨rfl, fun _ => rfl⟩
theorem Eqv.trans {a b c : St} (h : Eqv a b) (k : Eqv b c) : Eqv a c := ⟨h.1.trans k.1, fun r => (h.2 r).trans (k.2 r)⟩
theorem app_tmps (s : St) (r : Rec) : (s.app r).tmps = match r.dst with
    | some d => s.tmps.set d r.av
    | none => s.tmps := by
  unfold St.app St.put
  cases r.dst <;> rfl
theorem app_regs (s : St) (r : Rec) : (s.app r).regs = r.e.app s.regs := by unfold St.app; rw [St.put_regs]
theorem app_next (s : St) (r : Rec) : (s.app r).next = s.next := by unfold St.app; rw [St.put_next]
theorem Eqv.app {s s' : St} (h : Eqv s s') (r : Rec) : Eqv (s.app r) (s'.app r) := by
  refine ⟨by rw [app_tmps, app_tmps, h.1], fun k => ?_⟩
  rw [app_regs, app_regs]
  exact look_app_congr (h.2 k)
theorem Eqv.foldL : ∀ {rs : List Rec} {bs : List Bool} {s s' : St}, Eqv s s' → Eqv (foldL rs bs s) (foldL rs bs s')
  | [], _, _, _, h => by simpa [Go.Lift.foldL] using h
  | _ :: _, [], _, _, h => by simpa [Go.Lift.foldL] using h
  | r :: rs, true :: bs, _, _, h => by simp only [Go.Lift.foldL]; exact Eqv.foldL (h.app r)
  | r :: rs, false :: bs, _, _, h => by simp only [Go.Lift.foldL]; exact Eqv.foldL h
theorem app_comm {x y : Rec} (h : commB x y = true) (s : St) : Eqv ((s.app x).app y) ((s.app y).app x) := by
  simp only [commB, Bool.and_eq_true, List.all_eq_true, Bool.not_eq_true', List.contains_eq_mem, decide_eq_false_iff_not] at h
  obtain ⟨h1, h2⟩ := h
  refine ⟨?_, fun k => ?_⟩
  · simp only [app_tmps]
    cases hx : x.dst with
    | none => rfl
    | some a =>
      cases hy : y.dst with
      | none => rfl
      | some b =>
        rw [hx, hy] at h1
        simp only [bne_iff_ne] at h1
        exact List.set_comm _ _ h1
  · simp only [app_regs]
    by_cases hk : k ∈ touch x.e
    · have hky := h2 k hk
      rw [look_app_not hky]
      exact look_app_congr (look_app_not hky).symm
    · rw [look_app_not (e := x.e) (rs := y.e.app s.regs) hk]
      exact look_app_congr (look_app_not hk)
/-- A new one past those that commute with it. -/
theorem foldL_app : ∀ {rs : List Rec} {bs : List Bool} {x : Rec} {s : St}, (∀ (j : Nat) y, rs[j]? = some y → bs[j]? = some true → commB x y = true) → Eqv (foldL rs bs (s.app x)) ((foldL rs bs s).app x)
  | [], _, _, _, _ => by simpa [Go.Lift.foldL] using Eqv.refl _
  | _ :: _, [], _, _, _ => by simpa [Go.Lift.foldL] using Eqv.refl _
  | r :: rs, true :: bs, x, s, h => by
    simp only [Go.Lift.foldL]
    have hc := h 0 r (by simp) (by simp)
    exact (Eqv.foldL (app_comm hc s)).trans (foldL_app fun j y h1 h2 => h (j + 1) y (by simpa using h1) (by simpa using h2))
  | r :: rs, false :: bs, x, s, h => by
    simp only [Go.Lift.foldL]
    exact foldL_app fun j y h1 h2 => h (j + 1) y (by simpa using h1) (by simpa using h2)
theorem foldL_set : ∀ {rs : List Rec} {bs : List Bool} {i : Nat} {x : Rec} {s : St}, rs[i]? = some x → bs[i]? = some false →
    (∀ (j : Nat) y, i < j → rs[j]? = some y → bs[j]? = some true → commB x y = true) → Eqv ((foldL rs bs s).app x) (foldL rs (bs.set i true) s)
  | [], _, i, _, _, h, _, _ => by simp at h
  | _ :: _, [], i, _, _, _, h, _ => by simp at h
  | r :: rs, b :: bs, 0, x, s, h1, h2, h3 => by
    simp only [List.getElem?_cons_zero, Option.some.injEq] at h1 h2
    subst h1; subst h2
    simp only [List.set_cons_zero, Go.Lift.foldL]
    have := foldL_app (rs := rs) (bs := bs) (x := r) (s := s) fun j y e1 e2 => h3 (j + 1) y (by omega) (by simpa using e1) (by simpa using e2)
    exact ⟨this.1.symm, fun k => (this.2 k).symm⟩
  | r :: rs, b :: bs, i + 1, x, s, h1, h2, h3 => by
    simp only [List.getElem?_cons_succ] at h1 h2
    simp only [List.set_cons_succ]
    have h3' : ∀ (j : Nat) y, i < j → rs[j]? = some y → bs[j]? = some true → commB x y = true := fun j y e0 e1 e2 => h3 (j + 1) y (by omega) (by simpa using e1) (by simpa using e2)
    cases b with
    | true => simp only [Go.Lift.foldL]; exact foldL_set h1 h2 h3'
    | false => simp only [Go.Lift.foldL]; exact foldL_set h1 h2 h3'

theorem look_app_touch : ∀ {e : Eff} {rs rs' : Regs} {s : Nat}, s ∈ touch e → look (e.app rs) s = look (e.app rs') s
  | [], _, _, _, h => by simp [touch] at h
  | i :: e, rs, rs', s, h => by
    simp only [Eff.app]
    by_cases h1 : s ∈ i.touch
    · refine look_app_congr ?_
      cases i with
      | set old n g =>
        simp only [EffI.app, look_upd, look_without]
        by_cases hn : n = s
        · rw [if_pos hn, if_pos hn]
        · cases old with
          | none => simp [EffI.touch] at h1; exact (hn h1.symm).elim
          | some o =>
            simp only [EffI.touch, List.mem_cons, List.not_mem_nil, or_false] at h1
            have : o = s := by rcases h1 with h1 | h1; exact h1.symm; exact (hn h1.symm).elim
            subst this
            simp
      | del r =>
        simp only [EffI.touch, List.mem_singleton] at h1
        subst h1
        simp [EffI.app, look_drop]
    · simp only [touch, List.flatMap_cons, List.mem_append] at h
      rcases h with h | h
      · exact (h1 h).elim
      · exact look_app_touch h

/-- What one reads is the same: s is the machine's, s' the text's. -/
def Sees (y : Rec) (s s' : St) : Prop := (∀ t ∈ y.rd, s.tmps[t]? = s'.tmps[t]?) ∧
  (∀ r ∈ y.ids, if y.soft = true then (∀ g, lk y.shp r = some g → shpAt s'.regs r = some g → shpAt s.regs r = some g) else look s.regs r = look s'.regs r) ∧ s.tmps.length = s'.tmps.length
theorem shpAt_congr {rs rs' : Regs} {r : Nat} (h : look rs r = look rs' r) : shpAt rs r = shpAt rs' r := by unfold shpAt; rw [h]
theorem Sees.app {y : Rec} {s s' : St} (h : Sees y s s') (x : Rec) : Sees y (s.app x) (s'.app x) := by
  refine ⟨fun t ht => ?_, fun r hr => ?_, ?_⟩
  · rw [app_tmps, app_tmps]
    cases x.dst with
    | none => exact h.1 t ht
    | some d =>
      simp only [List.getElem?_set]
      rw [h.1 t ht, h.2.2]
  · have h2 := h.2.1 r hr
    rw [app_regs, app_regs]
    split
    · rename_i hs
      rw [if_pos hs] at h2
      by_cases hm : r ∈ touch x.e
      · rw [shpAt_congr (look_app_touch (rs := s.regs) (rs' := s'.regs) hm)]; exact fun _ _ h => h
      · rw [shpAt_congr (look_app_not hm), shpAt_congr (look_app_not hm)]; exact h2
    · rename_i hs
      rw [if_neg hs] at h2
      exact look_app_congr h2
  · rw [app_tmps, app_tmps]
    cases x.dst <;> simp [h.2.2]
theorem quiet_spec {x y : Rec} (h : quietB x y = true) : (∀ d, x.dst = some d → d ∉ y.rd) ∧ ∀ r ∈ touch x.e, r ∉ y.ids ∨ (y.soft = true ∧ ∃ g, (r, g) ∈ x.keep ∧ lk y.shp r = some g) := by
  simp only [quietB, Bool.and_eq_true, List.all_eq_true, Bool.or_eq_true, Bool.not_eq_true', List.contains_eq_mem, decide_eq_false_iff_not, List.any_eq_true, beq_iff_eq, decide_eq_true_eq] at h
  refine ⟨fun d hd => ?_, fun r hr => ?_⟩
  · have := h.1
    rw [hd] at this
    simpa using this
  · rcases h.2 r hr with h1 | ⟨h1, p, h2, h3, h4⟩
    · exact .inl h1
    · obtain ⟨k, g⟩ := p
      cases h3
      exact .inr ⟨h1, g, h2, h4⟩
/-- x is done by the machine alone. -/
theorem quiet_more {x y : Rec} (h : quietB x y = true) (hk : ∀ r g, (r, g) ∈ x.keep → r ∈ touch x.e → ∀ rs, shpAt (x.e.app rs) r = some g) (s : St) : Sees y (s.app x) s := by
  obtain ⟨h1, h2⟩ := quiet_spec h
  refine ⟨fun t ht => ?_, fun r hr => ?_, ?_⟩
  · rw [app_tmps]
    cases hx : x.dst with
    | none => rfl
    | some d =>
      simp only
      rw [List.getElem?_set_ne (fun (e : d = t) => h1 d hx (by rw [e]; exact ht))]
  · rw [app_regs]
    by_cases hm : r ∈ touch x.e
    · rcases h2 r hm with h3 | ⟨h3, g, h4, h5⟩
      · exact (h3 hr).elim
      · rw [if_pos h3]
        intro g' hg' _
        rw [h5] at hg'
        cases hg'
        exact hk r g h4 hm s.regs
    · split
      · rw [shpAt_congr (look_app_not hm)]; exact fun _ _ h => h
      · exact look_app_not hm
  · rw [app_tmps]
    cases x.dst <;> simp
/-- x is done by the text alone. -/
theorem quiet_less {x y : Rec} (h : quietB x y = true) (s : St) (hk : ∀ r g, (r, g) ∈ x.keep → shpAt s.regs r = some g) : Sees y s (s.app x) := by
  obtain ⟨h1, h2⟩ := quiet_spec h
  refine ⟨fun t ht => ?_, fun r hr => ?_, ?_⟩
  · rw [app_tmps]
    cases hx : x.dst with
    | none => rfl
    | some d =>
      simp only
      rw [List.getElem?_set_ne (fun (e : d = t) => h1 d hx (by rw [e]; exact ht))]
  · rw [app_regs]
    by_cases hm : r ∈ touch x.e
    · rcases h2 r hm with h3 | ⟨h3, g, h4, h5⟩
      · exact (h3 hr).elim
      · rw [if_pos h3]
        intro g' hg' _
        rw [h5] at hg'
        cases hg'
        exact hk r g h4
    · split
      · rw [shpAt_congr (look_app_not hm)]; exact fun _ _ h => h
      · exact (look_app_not hm).symm
  · rw [app_tmps]
    cases x.dst <;> simp
theorem Sees.trans {y : Rec} {a b c : St} (h : Sees y a b) (k : Sees y b c) : Sees y a c := by
  refine ⟨fun t ht => (h.1 t ht).trans (k.1 t ht), fun r hr => ?_, h.2.2.trans k.2.2⟩
  have h1 := h.2.1 r hr
  have h2 := k.2.1 r hr
  split
  · rename_i hs
    rw [if_pos hs] at h1 h2
    exact fun g hg h => h1 g hg (h2 g hg h)
  · rename_i hs
    rw [if_neg hs] at h1 h2
    exact h1.trans h2
theorem Sees.refl (y : Rec) (a : St) : Sees y a a := ⟨fun _ _ => rfl, fun _ _ => by split; exact fun _ _ h => h; rfl, rfl⟩
theorem sees_after {y : Rec} : ∀ {rs : List Rec} {bs : List Bool} {s : St}, (∀ (j : Nat) x, rs[j]? = some x → bs[j]? = some true → quietB x y = true ∧ ∀ r g, (r, g) ∈ x.keep → r ∈ touch x.e → ∀ rs, shpAt (x.e.app rs) r = some g) → Sees y (foldL rs bs s) s
  | [], _, _, _ => by simpa [Go.Lift.foldL] using Sees.refl _ _
  | _ :: _, [], _, _ => by simpa [Go.Lift.foldL] using Sees.refl _ _
  | r :: rs, true :: bs, s, h => by
    simp only [Go.Lift.foldL]
    have h0 := h 0 r (by simp) (by simp)
    exact (sees_after fun j x h1 h2 => h (j + 1) x (by simpa using h1) (by simpa using h2)).trans (quiet_more h0.1 h0.2 s)
  | r :: rs, false :: bs, s, h => by
    simp only [Go.Lift.foldL]
    exact sees_after fun j x h1 h2 => h (j + 1) x (by simpa using h1) (by simpa using h2)
theorem sees_here {y : Rec} : ∀ {rs : List Rec} {bs : List Bool} {i : Nat} {s s' : St}, Sees y s s' → rs[i]? = some y → bs[i]? = some false →
    (∀ (j : Nat) x, j < i → rs[j]? = some x → (bs[j]? = some true ∨ quietB x y = true) ∧ ∀ r g, (r, g) ∈ x.keep → shpAt (foldAll (rs.take j) s').regs r = some g) →
    (∀ (j : Nat) x, i < j → rs[j]? = some x → bs[j]? = some true → quietB x y = true ∧ ∀ r g, (r, g) ∈ x.keep → r ∈ touch x.e → ∀ rs, shpAt (x.e.app rs) r = some g) →
    Sees y (foldL rs bs s) (foldAll (rs.take i) s')
  | [], _, i, _, _, _, h, _, _, _ => by simp at h
  | _ :: _, [], i, _, _, _, _, h, _, _ => by simp at h
  | r :: rs, b :: bs, 0, s, s', h, h1, h2, h3, h4 => by
    simp only [List.getElem?_cons_zero, Option.some.injEq] at h1 h2
    subst h2
    simp only [Go.Lift.foldL, List.take_zero, foldAll, List.foldl_nil]
    exact (sees_after (y := y) (s := s) fun j x e1 e2 => h4 (j + 1) x (by omega) (by simpa using e1) (by simpa using e2)).trans h
  | r :: rs, b :: bs, i + 1, s, s', h, h1, h2, h3, h4 => by
    simp only [List.getElem?_cons_succ] at h1 h2
    have h3' : ∀ (j : Nat) x, j < i → rs[j]? = some x → (bs[j]? = some true ∨ quietB x y = true) ∧ ∀ q g, (q, g) ∈ x.keep → shpAt (foldAll (rs.take j) (s'.app r)).regs q = some g := fun j x e0 e1 => by
      have := h3 (j + 1) x (by omega) (by simpa using e1)
      simpa [foldAll] using this
    have h4' : ∀ (j : Nat) x, i < j → rs[j]? = some x → bs[j]? = some true → quietB x y = true ∧ ∀ r g, (r, g) ∈ x.keep → r ∈ touch x.e → ∀ rs, shpAt (x.e.app rs) r = some g := fun j x e0 e1 e2 => h4 (j + 1) x (by omega) (by simpa using e1) (by simpa using e2)
    simp only [List.take_succ_cons, foldAll, List.foldl_cons]
    have h0 := h3 0 r (by omega) (by simp)
    simp only [List.getElem?_cons_zero, Option.some.injEq, List.take_zero, foldAll, List.foldl_nil] at h0
    cases b with
    | true =>
      simp only [Go.Lift.foldL]
      exact sees_here (h.app r) h1 h2 h3' h4'
    | false =>
      simp only [Go.Lift.foldL]
      refine sees_here (h.trans (quiet_less ?_ s' h0.2)) h1 h2 h3' h4'
      rcases h0.1 with h0 | h0
      · cases h0
      · exact h0

theorem weakS_addr {q : SV} {r : Nat} {p : List Step} (h : weakS q = .addr r p) : q = .addr r p := by
  cases q <;> first | exact h | cases h
theorem arg_ids {ops : Array Oper} {o : Oper} {tm : List AV} {x : Operand} {r : Nat} {p : List Step} (hx : argS tm (tmpsOf o.op.operands.toList) x = some (.addr r p)) : r ∈ allIdsAt (readsT ops o) tm := by
  unfold argS at hx
  split at hx
  · rename_i sv hsv
    cases hx
    cases x with
    | tmp t =>
      simp only [argA] at hsv
      split at hsv
      · rename_i hc
        refine List.mem_flatMap.2 ⟨t, ?_, ?_⟩
        · refine List.mem_append.2 (.inl ?_)
          simpa using hc
        · cases hv : tm[t]? with
          | none => rw [hv] at hsv; cases hsv
          | some av =>
            rw [hv] at hsv
            cases av with
            | gd k b w q =>
              simp only [Option.some.injEq, AV.s.injEq] at hsv
              have := weakS_addr hsv
              subst this; simp [AV.allIds, SV.allIds]
            | s q =>
              simp only [Option.some.injEq, AV.s.injEq] at hsv
              have := weakS_addr hsv
              subst this; simp [AV.allIds, SV.allIds]
            | tup q => cases hsv
            | fn f q => cases hsv
      · cases hsv
    | const c =>
      simp only [argA, Option.map_eq_some_iff] at hsv
      obtain ⟨q, hq, e⟩ := hsv
      cases e
      unfold constAV at hq
      split at hq <;> cases hq
    | func f => simp [argA] at hsv
    | global g => simp [argA] at hsv
  · cases hx
/-- Two regions of one shape. -/
inductive Shp2 : Option Reg → Option Reg → Prop where
  | row (t : Ty) (xs ys : List t.den) : Shp2 (some (.row t xs)) (some (.row t ys))
  | box (t : Ty) (x y : t.den) : Shp2 (some (.box t x)) (some (.box t y))
theorem shp2_of {rs rs2 : Regs} {r : Nat} (h1 : (shpAt rs r).isSome = true) (h2 : shpAt rs2 r = shpAt rs r) : Shp2 (look rs r) (look rs2 r) := by
  unfold shpAt at h1 h2
  cases e1 : look rs r with
  | none => rw [e1] at h1; cases h1
  | some g =>
    rw [e1] at h1 h2
    cases e2 : look rs2 r with
    | none => rw [e2] at h2; cases g <;> cases h2; cases h1
    | some g2 =>
      rw [e2] at h2
      cases g <;> cases g2 <;> first | (cases h2; done) | (simp only [Option.some.injEq, Prod.mk.injEq, true_and] at h2; subst h2; constructor) | cases h1 | cases h2
theorem fieldA_soft {P : Program} {rs rs2 : Regs} {s : TypeId} {x : SV} {k : Nat} (h : ∀ r p, x = .addr r p → Shp2 (look rs r) (look rs2 r)) : fieldA P rs s x k = fieldA P rs2 s x k := by
  unfold fieldA
  cases fieldOf P s k with
  | none => rfl
  | some q =>
    obtain ⟨ft, off⟩ := q
    cases x with
    | addr r p =>
      have := h r p rfl
      simp only
      generalize look rs r = a at this
      generalize look rs2 r = b at this
      cases this <;> rfl
    | _ => rfl
theorem indexA_soft {P : Program} {rs rs2 : Regs} {t : TypeId} {x i : SV} {n : Nat} {e : TypeId} (ht : P.underlying t = some (.array n e)) (h : ∀ r p, x = .addr r p → Shp2 (look rs r) (look rs2 r)) : indexA P rs t x i = indexA P rs2 t x i := by
  unfold indexA
  split
  · rw [ht]
    cases x with
    | addr r p =>
      have := h r p rfl
      simp only
      generalize look rs r = a at this
      generalize look rs2 r = b at this
      cases this <;> rfl
    | ra t x => cases t <;> rfl
    | val t x => cases t <;> rfl
    | _ => rfl
  · rfl
/-- Such an operation reads no more than that. -/
theorem opG_soft {E : Env} {ops : Array Oper} {tm : List AV} {rs rs2 : Regs} {n : Nat} {o : Oper} (ho : isSoft E.P o = true) (h : ∀ r ∈ allIdsAt (readsT ops o) tm, Shp2 (look rs r) (look rs2 r)) :
    opG E ops tm rs n o = opG E ops tm rs2 n o := by
  have hA : ∀ x r p, argS tm (tmpsOf o.op.operands.toList) x = some (.addr r p) → Shp2 (look rs r) (look rs2 r) := fun x r p hx => h r (arg_ids hx)
  have key : opPlain E tm rs n o = opPlain E tm rs2 n o := by
    unfold isSoft at ho
    unfold opPlain
    split at ho
    · rename_i x hop
      rw [hop] at hA ⊢
      simp only [nilTest, core, hop]
      congr 1
      cases hx : argS tm (tmpsOf (Op.nilCheck x).operands.toList) x with
      | none => rfl
      | some v =>
        cases v with
        | addr r p =>
          have := hA x r p hx
          simp only
          generalize look rs r = a at this
          generalize look rs2 r = b at this
          cases this <;> rfl
        | _ => rfl
    · rename_i x hop; rw [hop]; simp only [nilTest, core, hop]
    · rename_i x hop; rw [hop]; simp only [nilTest, core, hop]
    · rename_i t x k hop
      rw [hop] at hA ⊢
      simp only [nilTest, core, hop]
      congr 1
      cases hx : argS tm (tmpsOf (Op.fieldAddr t x k).operands.toList) x with
      | none => rfl
      | some v =>
        simp only
        rw [fieldA_soft (rs2 := rs2) fun r p e => hA x r p (by rw [hx, e])]
    · rename_i t x i hop
      rw [hop] at hA ⊢
      simp only [nilTest, core, hop]
      congr 1
      split at ho
      · rename_i n' e ht
        cases hx : argS tm (tmpsOf (Op.indexAddr t x i).operands.toList) x with
        | none => rfl
        | some v =>
          cases hi : argS tm (tmpsOf (Op.indexAddr t x i).operands.toList) i with
          | none => rfl
          | some w =>
            simp only
            rw [indexA_soft (rs2 := rs2) ht fun r p e => hA x r p (by rw [hx, e])]
      · cases ho
    · cases ho
  unfold opG
  rw [key]

theorem fresh_app {cx : Cx} {s : St} {m : Nat} (h : FreshN cx s m) {x : Rec} (h1 : m ∉ touch x.e) (h2 : m ∉ x.av.allIds) : FreshN cx (s.app x) m := by
  refine ⟨⟨?_, fun av hav hm => ?_⟩, h.2⟩
  · rw [app_regs, look_app_not h1]; exact h.1.1
  · rw [app_tmps] at hav
    cases hd : x.dst with
    | none => rw [hd] at hav; exact h.1.2 av hav hm
    | some d =>
      rw [hd] at hav
      rcases List.mem_or_eq_of_mem_set hav with h3 | h3
      · exact h.1.2 av h3 hm
      · subst h3; exact h2 (AV.allIds_spec hm)
theorem fresh_foldL {cx : Cx} {m : Nat} : ∀ {rs : List Rec} {bs : List Bool} {s : St}, FreshN cx s m → (∀ (j : Nat) x, rs[j]? = some x → bs[j]? = some true → m ∉ touch x.e ∧ m ∉ x.av.allIds) → FreshN cx (foldL rs bs s) m
  | [], _, _, h, _ => by simpa [Go.Lift.foldL] using h
  | _ :: _, [], _, h, _ => by simpa [Go.Lift.foldL] using h
  | r :: rs, true :: bs, s, h, hj => by
    simp only [Go.Lift.foldL]
    obtain ⟨h1, h2⟩ := hj 0 r (by simp) (by simp)
    exact fresh_foldL (fresh_app h h1 h2) fun j x h1 h2 => hj (j + 1) x (by simpa using h1) (by simpa using h2)
  | r :: rs, false :: bs, s, h, hj => by
    simp only [Go.Lift.foldL]
    exact fresh_foldL h fun j x h1 h2 => hj (j + 1) x (by simpa using h1) (by simpa using h2)

theorem RelF.eqv {cx : Cx} {φ : Phi} {s s' : St} {a : Act} {w : World} (R : RelF cx φ s a w) (h : Eqv s s') : RelF cx φ s' a w := by
  have hok : okOf s.regs φ = okOf s'.regs φ := by
    funext b
    simp only [okOf, h.2]
  have hm : ∀ b o, okOf s.regs φ b → w.heap[b]? = some o → okOf s'.regs φ b ∧ w.heap[b]? = some o := fun b o h1 h2 => ⟨hok ▸ h1, h2⟩
  refine ⟨by rw [R.size, h.1], R.df, ?_, ?_, ?_, ?_, ?_, R.kp, R.hB, R.bs⟩
  · intro i av hi
    rw [← h.1] at hi
    exact AVRel.mono hm (fun r _ g' hg => ⟨rfl, g', by rw [h.2]; exact hg, SameKind.refl _⟩) (R.tm i av hi)
  · intro r g hg
    rw [← h.2] at hg
    exact Reg.at_mono hm (fun _ _ => rfl) (R.rg r g hg)
  · intro r r' g g' b h1 h2
    rw [← h.2] at h1 h2
    exact R.sep r r' g g' b h1 h2
  · intro r g b h1
    rw [← h.2] at h1
    exact R.fr r g b h1
  · intro r l h1 h2
    rw [← h.2] at h2
    exact R.io r l h1 h2

end Go.Lift
