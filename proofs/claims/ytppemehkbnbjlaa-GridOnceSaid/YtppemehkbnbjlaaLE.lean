/- Lines for the functions of this seat; merged from texts of their own. -/
import Derived.Test.YtppemehkbnbjlaaLD
set_option linter.unusedVariables false
set_option linter.unusedSimpArgs false
/- A region whose order is drawn. -/
namespace Go.Lift
open Go

structure Rec where
  rd : List Tmp
  ids : List Nat
  dst : Option Tmp
  av : AV
  e : Eff
  n : Nat
  pre : List Bool
  soft : Bool
  shp : List (Nat × (Bool × Ty))
  keep : List (Nat × (Bool × Ty))
def St.app (st : St) (r : Rec) : St := ({ st with regs := r.e.app st.regs } : St).put r.dst r.av

def guardT (ops : Array Oper) (o : Oper) : List Tmp :=
  match o.guard with
  | some (j, _) => ((ops[j]?).bind (·.dst)).toList
  | none => []
def readsT (ops : Array Oper) (o : Oper) : List Tmp := tmpsOf o.op.operands.toList ++ guardT ops o
def allIdsAt (ts : List Tmp) (tm : List AV) : List Nat := ts.flatMap fun t => match tm[t]? with
  | some v => v.allIds
  | none => []
def inN (n r : Nat) : Bool := decide (n ≤ r) && decide (r < n + 16)

/-- The shape of a region: a row, or a struct; of which type. -/
def shpAt (rs : Regs) (r : Nat) : Option (Bool × Ty) :=
  match look rs r with
  | some (.row t _ _) => some (true, t)
  | some (.box t _ _) => some (false, t)
  | _ => none
/-- An operation that reads no more of its regions than their shapes. -/
def isSoft (P : Program) (o : Oper) : Bool :=
  match o.op with
  | .nilCheck _ => true
  | .move _ => true
  | .assign _ => true
  | .fieldAddr _ _ _ => true
  | .indexAddr t _ _ => match P.underlying t with
    | some (.array _ _) => true
    | _ => false
  | _ => false
def lk : List (Nat × (Bool × Ty)) → Nat → Option (Bool × Ty)
  | [], _ => none
  | (k, g) :: l, r => if k = r then some g else lk l r
def shpsOf (rs : Regs) : List Nat → List (Nat × (Bool × Ty))
  | [] => []
  | r :: l => match shpAt rs r with
    | some g => (r, g) :: shpsOf rs l
    | none => shpsOf rs l
theorem lk_shpsOf (rs : Regs) : ∀ {l : List Nat} {r : Nat}, r ∈ l → lk (shpsOf rs l) r = shpAt rs r
  | [], _, h => by simp at h
  | k :: l, r, h => by
    by_cases hkr : k = r
    · subst hkr
      simp only [shpsOf]
      cases hs : shpAt rs k with
      | some g => simp [lk]
      | none =>
        simp only
        by_cases hm : k ∈ l
        · rw [lk_shpsOf rs hm, hs]
        · clear h
          induction l with
          | nil => rfl
          | cons j l ih =>
            simp only [List.mem_cons, not_or] at hm
            simp only [shpsOf]
            cases shpAt rs j with
            | none => exact ih hm.2
            | some g => simp only [lk]; rw [if_neg (fun e => hm.1 e.symm)]; exact ih hm.2
    · have hm : r ∈ l := by rcases List.mem_cons.1 h with h | h; exact (hkr h.symm).elim; exact h
      simp only [shpsOf]
      cases hs : shpAt rs k with
      | some g => simp only [lk]; rw [if_neg hkr]; exact lk_shpsOf rs hm
      | none => exact lk_shpsOf rs hm
def keepsOf (rs rs' : Regs) : List Nat → List (Nat × (Bool × Ty))
  | [] => []
  | r :: l => match shpAt rs r, shpAt rs' r with
    | some g, some g' => if g = g' then (r, g) :: keepsOf rs rs' l else keepsOf rs rs' l
    | _, _ => keepsOf rs rs' l
theorem keepsOf_spec (rs rs' : Regs) : ∀ {l : List Nat} {r : Nat} {g : Bool × Ty}, (r, g) ∈ keepsOf rs rs' l → r ∈ l ∧ shpAt rs r = some g ∧ shpAt rs' r = some g
  | [], _, _, h => by simp [keepsOf] at h
  | k :: l, r, g, h => by
    simp only [keepsOf] at h
    split at h
    · rename_i g1 g2 h1 h2
      split at h
      · rename_i e
        subst e
        rcases List.mem_cons.1 h with h | h
        · cases h; exact ⟨List.mem_cons_self .., h1, h2⟩
        · obtain ⟨a, b⟩ := keepsOf_spec rs rs' h; exact ⟨List.mem_cons_of_mem _ a, b⟩
      · obtain ⟨a, b⟩ := keepsOf_spec rs rs' h; exact ⟨List.mem_cons_of_mem _ a, b⟩
    · obtain ⟨a, b⟩ := keepsOf_spec rs rs' h; exact ⟨List.mem_cons_of_mem _ a, b⟩
/-- The holes of these lead to these. -/
def shutB (ids : List Nat) (rs : Regs) : Bool := ids.all fun r => match look rs r with
  | some g => g.holes.all fun q => ids.contains q.2
  | none => true
def kindsB (rs rs' : Regs) (l : List Nat) : Bool := l.all fun r => match look rs r, look rs' r with
  | some g0, some g => kindB g0 g
  | _, _ => true
def softB (E : Env) (o : Oper) (ids : List Nat) (rs : Regs) : Bool := isSoft E.P o && ids.all fun r => (shpAt rs r).isSome
def recIds (E : Env) (o : Oper) (ts : List Tmp) (st : St) : List Nat :=
  if softB E o (allIdsAt ts st.tmps) st.regs = true then allIdsAt ts st.tmps else grow 16 st.regs (allIdsAt ts st.tmps)
def recOf (E : Env) (ops : Array Oper) (pre : List Bool) (n : Nat) (o : Oper) (st : St) (f : List AV → Regs → Option Out) : Option (List Prop × Rec) :=
  let ts := readsT ops o
  let soft := softB E o (allIdsAt ts st.tmps) st.regs
  let ids := recIds E o ts st
  match f st.tmps (restr ids st.regs) with
  | some (vc, av, e) =>
    if (touch e).all (fun r => (ids.contains r && (look st.regs r).isSome) || inN n r) && av.allIds.all (fun r => ids.contains r || inN n r) &&
        (soft || (shutB ids st.regs && (effKids e).all (fun r => ids.contains r || inN n r) && kindsB st.regs (e.app st.regs) (touch e))) then
      some (vc, ⟨ts, ids, o.dst, av, e, n, pre, soft, shpsOf st.regs ids, keepsOf st.regs (e.app st.regs) (touch e)⟩) else none
  | none => none
def recV (E : Env) (ops : Array Oper) (pre : List Bool) (n : Nat) (o : Oper) (st : St) : Option (List Prop × Rec) :=
  recOf E ops pre n o st fun tm rs => opG E ops tm rs n o
/-- The same, without what is told already. -/
def recVP (E : Env) (ops : Array Oper) (pre : List Bool) (n : Nat) (o : Oper) (st : St) : Option (List Prop × Rec) :=
  recOf E ops pre n o st fun tm rs => opGP E ops tm rs n o
theorem recVP_spec {E : Env} {ops : Array Oper} {pre : List Bool} {n : Nat} {o : Oper} {st : St} {vc' : List Prop} {r : Rec} (hI : Inv st.tmps) (h : recVP E ops pre n o st = some (vc', r)) :
    (∃ vc, recV E ops pre n o st = some (vc, r) ∧ ((∀ p ∈ vc', p) → ∀ p ∈ vc, p)) ∧ Inv (st.app r).tmps := by
  unfold recVP recOf at h
  simp only at h
  split at h
  · rename_i vc1 av e hg
    split at h
    · rename_i hc
      cases h
      obtain ⟨⟨vc, h1, h2⟩, h3⟩ := opGP_spec hI hg
      refine ⟨⟨vc, ?_, h2⟩, ?_⟩
      · unfold recV recOf
        simp only [h1]
        rw [if_pos hc]
      · unfold St.app
        simp only
        cases hd : o.dst with
        | none => exact hI
        | some d => exact h3 d hd
    · cases h
  · cases h

def orL : List Bool → List Bool → List Bool
  | [], bs => bs
  | a :: as, [] => a :: as
  | a :: as, b :: bs => (a || b) :: orL as bs
theorem orL_get : ∀ (as bs : List Bool) (j : Nat), (orL as bs).getD j false = (as.getD j false || bs.getD j false)
  | [], bs, j => by simp [orL]
  | a :: as, [], j => by simp [orL]
  | a :: as, b :: bs, 0 => by simp [orL]
  | a :: as, b :: bs, j + 1 => by
    have := orL_get as bs j
    simpa [orL] using this
def oneL : Nat → List Bool
  | 0 => [true]
  | n + 1 => false :: oneL n
theorem oneL_get : ∀ (n j : Nat), (oneL n).getD j false = true → j = n
  | 0, 0, _ => rfl
  | 0, j + 1, h => by simp [oneL] at h
  | n + 1, 0, h => by simp [oneL] at h
  | n + 1, j + 1, h => by
    have := oneL_get n j (by simpa [oneL] using h)
    omega

def forceNs {β : Sort _} : List Nat → (List Nat → β) → β
  | [], k => k []
  | n :: ns, k => forceNs ns fun ns => k (n :: ns)
def forceBs {β : Sort _} : List Bool → (List Bool → β) → β
  | [], k => k []
  | true :: ns, k => forceBs ns fun ns => k (true :: ns)
  | false :: ns, k => forceBs ns fun ns => k (false :: ns)
def forceEff {β : Sort _} : Eff → (Eff → β) → β
  | [], k => k []
  | .del r :: e, k => forceEff e fun e => k (.del r :: e)
  | .set none n g :: e, k => forceReg g fun g => forceEff e fun e => k (.set none n g :: e)
  | .set (some o) n g :: e, k => forceReg g fun g => forceEff e fun e => k (.set (some o) n g :: e)
def forceOn {β : Sort _} : Option Nat → (Option Nat → β) → β
  | none, k => k none
  | some n, k => k (some n)
def forceKs {β : Sort _} : List (Nat × (Bool × Ty)) → (List (Nat × (Bool × Ty)) → β) → β
  | [], k => k []
  | n :: ns, k => forceKs ns fun ns => k (n :: ns)
theorem forceKs_eq {β : Sort _} : ∀ (l : List (Nat × (Bool × Ty))) (k : List (Nat × (Bool × Ty)) → β), forceKs l k = k l
  | [], _ => rfl
  | n :: ns, k => by simp only [forceKs, forceKs_eq ns]
def forceRec {β : Sort _} (r : Rec) (k : Rec → β) : β :=
  match r with
  | ⟨rd, ids, dst, av, e, n, pre, soft, shp, keep⟩ => forceNs rd fun rd => forceNs ids fun ids => forceOn dst fun dst => forceAV av fun av => forceEff e fun e => forceBs pre fun pre => forceBs [soft] fun soft => forceKs shp fun shp => forceKs keep fun keep => k ⟨rd, ids, dst, av, e, n, pre, soft.headD false, shp, keep⟩
theorem forceNs_eq {β : Sort _} : ∀ (l : List Nat) (k : List Nat → β), forceNs l k = k l
  | [], _ => rfl
  | n :: ns, k => by simp only [forceNs, forceNs_eq ns]
theorem forceBs_eq {β : Sort _} : ∀ (l : List Bool) (k : List Bool → β), forceBs l k = k l
  | [], _ => rfl
  | true :: ns, k => by simp only [forceBs, forceBs_eq ns]
  | false :: ns, k => by simp only [forceBs, forceBs_eq ns]
theorem forceEff_eq {β : Sort _} : ∀ (l : Eff) (k : Eff → β), forceEff l k = k l
  | [], _ => rfl
  | .del r :: e, k => by simp only [forceEff, forceEff_eq e]
  | .set none n g :: e, k => by simp only [forceEff, forceReg_eq, forceEff_eq e]
  | .set (some o) n g :: e, k => by simp only [forceEff, forceReg_eq, forceEff_eq e]
theorem forceOn_eq {β : Sort _} (o : Option Nat) (k : Option Nat → β) : forceOn o k = k o := by cases o <;> rfl
theorem forceRec_eq {β : Sort _} (r : Rec) (k : Rec → β) : forceRec r k = k r := by
  cases r
  simp only [forceRec, forceNs_eq, forceOn_eq, forceAV_eq, forceEff_eq, forceBs_eq, forceKs_eq, List.headD_cons]

/-! ### an operation sees its own temporaries and regions alone -/
theorem argA_local {tm tm2 : List AV} {ts : List Tmp} (h : ∀ t ∈ ts, tm[t]? = tm2[t]?) : argA tm ts = argA tm2 ts := by
  funext x
  cases x with
  | tmp t =>
    simp only [argA]
    split
    · rename_i hm; rw [h t (by simpa using hm)]
    · rfl
  | _ => rfl
theorem argS_local {tm tm2 : List AV} {ts : List Tmp} (h : ∀ t ∈ ts, tm[t]? = tm2[t]?) : argS tm ts = argS tm2 ts := by
  funext x
  unfold argS
  rw [argA_local h]
theorem gdVC_local {tm tm2 : List AV} : ∀ {ts : List Tmp} (_ : ∀ t ∈ ts, tm[t]? = tm2[t]?), gdVC tm ts = gdVC tm2 ts
  | [], _ => rfl
  | t :: ts, h => by
    have ih := gdVC_local (tm := tm) (tm2 := tm2) (ts := ts) (fun t ht => h t (List.mem_cons_of_mem _ ht))
    unfold gdVC at ih ⊢
    simp only [List.flatMap_cons]
    rw [ih]
    unfold gdOf
    rw [h t (List.mem_cons_self ..)]
theorem mem_tmpsOf {l : List Operand} {t : Tmp} (h : Operand.tmp t ∈ l) : t ∈ tmpsOf l := List.mem_filterMap.2 ⟨_, h, rfl⟩
theorem rawV_local {tm tm2 : List AV} {x : Operand} (h : ∀ t, x = .tmp t → tm[t]? = tm2[t]?) : rawV tm x = rawV tm2 x := by
  cases x with
  | tmp t => simp only [rawV]; rw [h t rfl]
  | _ => rfl

theorem opPlain_local {E : Env} {tm tm2 : List AV} {rs : Regs} {n : Nat} {o : Oper} (h : ∀ t ∈ tmpsOf o.op.operands.toList, tm[t]? = tm2[t]?) : opPlain E tm rs n o = opPlain E tm2 rs n o := by
  unfold opPlain
  split
  · rename_i neg x hnt
    have hx : rawV tm x = rawV tm2 x := rawV_local fun t ht => by
      subst ht
      refine h t (mem_tmpsOf ?_)
      unfold nilTest at hnt
      split at hnt
      · rename_i ho
        split at hnt
        · cases hnt; rw [ho]; simp [Op.operands]
        · cases hnt
      · rename_i ho
        split at hnt
        · cases hnt; rw [ho]; simp [Op.operands]
        · cases hnt
      · cases hnt
    rw [hx]
  split
  · rename_i c a b ho
    have hx : ∀ x ∈ [c, a, b], rawV tm x = rawV tm2 x := fun x hx => rawV_local fun t ht => by
      subst ht
      refine h t (mem_tmpsOf ?_)
      rw [ho]
      simpa [Op.operands] using hx
    unfold pickV
    rw [hx c (by simp), hx a (by simp), hx b (by simp)]
  · rename_i f args ats ho
    have h' : ∀ t ∈ tmpsOf (f :: args.toList), tm[t]? = tm2[t]? := fun t ht => h t (by
      rw [ho]
      simpa [Op.operands, Call.operands] using ht)
    simp only [argF, argA_local h', argS_local h', gdVC_local h']
  · simp only [argA_local h, argS_local h, gdVC_local h]

theorem guardKey_local {ops : Array Oper} {tm tm2 : List AV} {o : Oper} {j : Nat} {want : Bool} (hg : o.guard = some (j, want)) (h : ∀ t ∈ readsT ops o, tm[t]? = tm2[t]?) : guardKey ops tm j want = guardKey ops tm2 j want := by
  unfold guardKey
  cases hd : (ops[j]?).bind (·.dst) with
  | none => rfl
  | some t =>
    have := h t (List.mem_append.2 (.inr (by simp [guardT, hg, hd])))
    simp only
    rw [this]
theorem opG_local {E : Env} {ops : Array Oper} {tm tm2 : List AV} {rs : Regs} {n : Nat} {o : Oper} (h : ∀ t ∈ readsT ops o, tm[t]? = tm2[t]?) : opG E ops tm rs n o = opG E ops tm2 rs n o := by
  have h1 : opG E ops tm rs n o = opG E ops tm2 rs n o := by
    have hp : ∀ rs, opPlain E tm rs n o = opPlain E tm2 rs n o := fun rs => opPlain_local fun t ht => h t (List.mem_append.2 (.inl ht))
    have hq : planO E n rs tm o = planO E n rs tm2 o := by
      unfold planO
      rw [argS_local (tm2 := tm2) fun t ht => h t (List.mem_append.2 (.inl ht)), argA_local (tm2 := tm2) fun t ht => h t (List.mem_append.2 (.inl ht))]
    have hr : ∀ rs, opG0 E.on E.off n ops tm rs o (fun _ => opPlain E tm rs n o) = opG0 E.on E.off n ops tm2 rs o (fun _ => opPlain E tm2 rs n o) := by
      intro rs
      unfold opG0
      rw [hp rs]
      cases hg : o.guard with
      | none => rfl
      | some g =>
        obtain ⟨j, want⟩ := g
        simp only
        rw [guardKey_local hg h]
    unfold opG
    rw [hq]
    simp only [hr]
  exact h1

theorem restr_local {ids : List Nat} {rs rs2 : Regs} (h : ∀ r ∈ ids, look rs r = look rs2 r) : restr ids rs = restr ids rs2 := by
  induction ids with
  | nil => rfl
  | cons r ids ih =>
    have := ih fun s hs => h s (List.mem_cons_of_mem _ hs)
    unfold restr at this ⊢
    simp only [List.filterMap_cons]
    rw [h r (List.mem_cons_self ..), this]
theorem allIdsAt_local {tm tm2 : List AV} : ∀ {ts : List Tmp} (_ : ∀ t ∈ ts, tm[t]? = tm2[t]?), allIdsAt ts tm = allIdsAt ts tm2
  | [], _ => rfl
  | t :: ts, h => by
    have ih := allIdsAt_local (tm := tm) (tm2 := tm2) (ts := ts) (fun t ht => h t (List.mem_cons_of_mem _ ht))
    unfold allIdsAt at ih ⊢
    simp only [List.flatMap_cons]
    rw [ih, h t (List.mem_cons_self ..)]

/-! ### many in turn -/
def foldL : List Rec → List Bool → St → St
  | r :: rs, true :: bs, st => foldL rs bs (st.app r)
  | _ :: rs, false :: bs, st => foldL rs bs st
  | _, _, st => st
def foldAll (rs : List Rec) (st : St) : St := rs.foldl St.app st

def quietB (x y : Rec) : Bool :=
  (match x.dst with
    | some d => !y.rd.contains d
    | none => true) && (touch x.e).all (fun r => !y.ids.contains r || (y.soft && x.keep.any fun p => p.1 == r && decide (lk y.shp r = some p.2)))
def noM (x : Rec) (n : Nat) : Bool := (touch x.e).all (fun r => !inN n r) && x.av.allIds.all (fun r => !inN n r) && (effKids x.e).all (fun r => !inN n r)
def commB (x y : Rec) : Bool :=
  (match x.dst, y.dst with
    | some a, some b => a != b
    | _, _ => true) && (touch x.e).all (fun r => !(touch y.e).contains r)
/-- i before j in the text; x is i's, y is j's. -/
def pairB (i : Nat) (x y : Rec) : Bool :=
  noM x y.n && (y.pre.getD i false || (quietB x y && quietB y x && commB x y && noM y x.n))
def pairs : Nat → List Rec → Bool
  | _, [] => true
  | k, x :: rs => rs.all (pairB k x) && pairs (k + 1) rs
theorem pairs_spec : ∀ {rs : List Rec} {k i j : Nat} {x y : Rec}, pairs k rs = true → i < j → rs[i]? = some x → rs[j]? = some y → pairB (k + i) x y = true
  | [], _, i, _, _, _, _, _, hi, _ => by simp at hi
  | x0 :: rs, k, i, j, x, y, h, hij, hi, hj => by
    simp only [pairs, Bool.and_eq_true, List.all_eq_true] at h
    cases j with
    | zero => omega
    | succ j =>
      simp only [List.getElem?_cons_succ] at hj
      cases i with
      | zero =>
        simp only [List.getElem?_cons_zero, Option.some.injEq] at hi
        subst hi
        exact h.1 y (List.mem_of_getElem? hj)
      | succ i =>
        simp only [List.getElem?_cons_succ] at hi
        have := pairs_spec (rs := rs) (k := k + 1) h.2 (by omega) hi hj
        rwa [show k + 1 + i = k + (i + 1) from by omega] at this

structure Eqv (s s' : St) : Prop where
  tm : s.tmps = s'.tmps
  rg : ∀ r, look s.regs r = look s'.regs r
  gh : s.gh = s'.gh
theorem Eqv.refl (s : St) : Eqv s s := ⟨rfl, fun _ => rfl, rfl⟩
theorem Eqv.trans {a b c : St} (h : Eqv a b) (k : Eqv b c) : Eqv a c := ⟨h.1.trans k.1, fun r => (h.2 r).trans (k.2 r), h.3.trans k.3⟩
theorem app_tmps (s : St) (r : Rec) : (s.app r).tmps = match r.dst with
    | some d => s.tmps.set d r.av
    | none => s.tmps := by
  unfold St.app St.put
  cases r.dst <;> rfl
theorem app_regs (s : St) (r : Rec) : (s.app r).regs = r.e.app s.regs := by unfold St.app; rw [St.put_regs]
theorem app_next (s : St) (r : Rec) : (s.app r).next = s.next := by unfold St.app; rw [St.put_next]
theorem app_gh (s : St) (r : Rec) : (s.app r).gh = s.gh := by unfold St.app; rw [St.put_gh]
theorem Eqv.app {s s' : St} (h : Eqv s s') (r : Rec) : Eqv (s.app r) (s'.app r) := by
  refine ⟨by rw [app_tmps, app_tmps, h.1], fun k => ?_, by rw [app_gh, app_gh, h.3]⟩
  rw [app_regs, app_regs]
  exact look_app_congr (h.2 k)
theorem Eqv.foldL : ∀ {rs : List Rec} {bs : List Bool} {s s' : St}, Eqv s s' → Eqv (foldL rs bs s) (foldL rs bs s')
  | [], _, _, _, h => by simpa [Go.Lift.foldL] using h
  | _ :: _, [], _, _, h => by simpa [Go.Lift.foldL] using h
  | r :: rs, true :: bs, _, _, h => by simp only [Go.Lift.foldL]; exact Eqv.foldL (h.app r)
  | r :: rs, false :: bs, _, _, h => by simp only [Go.Lift.foldL]; exact Eqv.foldL h
theorem app_comm {x y : Rec} (h : commB x y = true) (s : St) : Eqv ((s.app x).app y) ((s.app y).app x) := by
  simp only [commB, Bool.and_eq_true, List.all_eq_true, Bool.not_eq_true', List.contains_eq_mem, decide_eq_false_iff_not] at h
  obtain ⟨h1, h2⟩ := h
  refine ⟨?_, fun k => ?_, by simp only [app_gh]⟩
  · simp only [app_tmps]
    cases hx : x.dst with
    | none => rfl
    | some a =>
      cases hy : y.dst with
      | none => rfl
      | some b =>
        rw [hx, hy] at h1
        simp only [bne_iff_ne] at h1
        exact List.set_comm _ _ h1
  · simp only [app_regs]
    by_cases hk : k ∈ touch x.e
    · have hky := h2 k hk
      rw [look_app_not hky]
      exact look_app_congr (look_app_not hky).symm
    · rw [look_app_not (e := x.e) (rs := y.e.app s.regs) hk]
      exact look_app_congr (look_app_not hk)
/-- A new one past those that commute with it. -/
theorem foldL_app : ∀ {rs : List Rec} {bs : List Bool} {x : Rec} {s : St}, (∀ (j : Nat) y, rs[j]? = some y → bs[j]? = some true → commB x y = true) → Eqv (foldL rs bs (s.app x)) ((foldL rs bs s).app x)
  | [], _, _, _, _ => by simpa [Go.Lift.foldL] using Eqv.refl _
  | _ :: _, [], _, _, _ => by simpa [Go.Lift.foldL] using Eqv.refl _
  | r :: rs, true :: bs, x, s, h => by
    simp only [Go.Lift.foldL]
    have hc := h 0 r (by simp) (by simp)
    exact (Eqv.foldL (app_comm hc s)).trans (foldL_app fun j y h1 h2 => h (j + 1) y (by simpa using h1) (by simpa using h2))
  | r :: rs, false :: bs, x, s, h => by
    simp only [Go.Lift.foldL]
    exact foldL_app fun j y h1 h2 => h (j + 1) y (by simpa using h1) (by simpa using h2)
theorem foldL_set : ∀ {rs : List Rec} {bs : List Bool} {i : Nat} {x : Rec} {s : St}, rs[i]? = some x → bs[i]? = some false →
    (∀ (j : Nat) y, i < j → rs[j]? = some y → bs[j]? = some true → commB x y = true) → Eqv ((foldL rs bs s).app x) (foldL rs (bs.set i true) s)
  | [], _, i, _, _, h, _, _ => by simp at h
  | _ :: _, [], i, _, _, _, h, _ => by simp at h
  | r :: rs, b :: bs, 0, x, s, h1, h2, h3 => by
    simp only [List.getElem?_cons_zero, Option.some.injEq] at h1 h2
    subst h1; subst h2
    simp only [List.set_cons_zero, Go.Lift.foldL]
    have := foldL_app (rs := rs) (bs := bs) (x := r) (s := s) fun j y e1 e2 => h3 (j + 1) y (by omega) (by simpa using e1) (by simpa using e2)
    exact ⟨this.1.symm, fun k => (this.2 k).symm, this.3.symm⟩
  | r :: rs, b :: bs, i + 1, x, s, h1, h2, h3 => by
    simp only [List.getElem?_cons_succ] at h1 h2
    simp only [List.set_cons_succ]
    have h3' : ∀ (j : Nat) y, i < j → rs[j]? = some y → bs[j]? = some true → commB x y = true := fun j y e0 e1 e2 => h3 (j + 1) y (by omega) (by simpa using e1) (by simpa using e2)
    cases b with
    | true => simp only [Go.Lift.foldL]; exact foldL_set h1 h2 h3'
    | false => simp only [Go.Lift.foldL]; exact foldL_set h1 h2 h3'

theorem look_app_touch : ∀ {e : Eff} {rs rs' : Regs} {s : Nat}, s ∈ touch e → look (e.app rs) s = look (e.app rs') s
  | [], _, _, _, h => by simp [touch] at h
  | i :: e, rs, rs', s, h => by
    simp only [Eff.app]
    by_cases h1 : s ∈ i.touch
    · refine look_app_congr ?_
      cases i with
      | set old n g =>
        simp only [EffI.app, look_upd, look_without]
        by_cases hn : n = s
        · rw [if_pos hn, if_pos hn]
        · cases old with
          | none => simp [EffI.touch] at h1; exact (hn h1.symm).elim
          | some o =>
            simp only [EffI.touch, List.mem_cons, List.not_mem_nil, or_false] at h1
            have : o = s := by rcases h1 with h1 | h1; exact h1.symm; exact (hn h1.symm).elim
            subst this
            simp
      | del r =>
        simp only [EffI.touch, List.mem_singleton] at h1
        subst h1
        simp [EffI.app, look_drop]
    · simp only [touch, List.flatMap_cons, List.mem_append] at h
      rcases h with h | h
      · exact (h1 h).elim
      · exact look_app_touch h

/-- What one reads is the same: s is the machine's, s' the text's. -/
def Sees (y : Rec) (s s' : St) : Prop := (∀ t ∈ y.rd, s.tmps[t]? = s'.tmps[t]?) ∧
  (∀ r ∈ y.ids, if y.soft = true then (∀ g, lk y.shp r = some g → shpAt s'.regs r = some g → shpAt s.regs r = some g) else look s.regs r = look s'.regs r) ∧ s.tmps.length = s'.tmps.length
theorem shpAt_congr {rs rs' : Regs} {r : Nat} (h : look rs r = look rs' r) : shpAt rs r = shpAt rs' r := by unfold shpAt; rw [h]
theorem Sees.app {y : Rec} {s s' : St} (h : Sees y s s') (x : Rec) : Sees y (s.app x) (s'.app x) := by
  refine ⟨fun t ht => ?_, fun r hr => ?_, ?_⟩
  · rw [app_tmps, app_tmps]
    cases x.dst with
    | none => exact h.1 t ht
    | some d =>
      simp only [List.getElem?_set]
      rw [h.1 t ht, h.2.2]
  · have h2 := h.2.1 r hr
    rw [app_regs, app_regs]
    split
    · rename_i hs
      rw [if_pos hs] at h2
      by_cases hm : r ∈ touch x.e
      · rw [shpAt_congr (look_app_touch (rs := s.regs) (rs' := s'.regs) hm)]; exact fun _ _ h => h
      · rw [shpAt_congr (look_app_not hm), shpAt_congr (look_app_not hm)]; exact h2
    · rename_i hs
      rw [if_neg hs] at h2
      exact look_app_congr h2
  · rw [app_tmps, app_tmps]
    cases x.dst <;> simp [h.2.2]
theorem quiet_spec {x y : Rec} (h : quietB x y = true) : (∀ d, x.dst = some d → d ∉ y.rd) ∧ ∀ r ∈ touch x.e, r ∉ y.ids ∨ (y.soft = true ∧ ∃ g, (r, g) ∈ x.keep ∧ lk y.shp r = some g) := by
  simp only [quietB, Bool.and_eq_true, List.all_eq_true, Bool.or_eq_true, Bool.not_eq_true', List.contains_eq_mem, decide_eq_false_iff_not, List.any_eq_true, beq_iff_eq, decide_eq_true_eq] at h
  refine ⟨fun d hd => ?_, fun r hr => ?_⟩
  · have := h.1
    rw [hd] at this
    simpa using this
  · rcases h.2 r hr with h1 | ⟨h1, p, h2, h3, h4⟩
    · exact .inl h1
    · obtain ⟨k, g⟩ := p
      cases h3
      exact .inr ⟨h1, g, h2, h4⟩
/-- x is done by the machine alone. -/
theorem quiet_more {x y : Rec} (h : quietB x y = true) (hk : ∀ r g, (r, g) ∈ x.keep → r ∈ touch x.e → ∀ rs, shpAt (x.e.app rs) r = some g) (s : St) : Sees y (s.app x) s := by
  obtain ⟨h1, h2⟩ := quiet_spec h
  refine ⟨fun t ht => ?_, fun r hr => ?_, ?_⟩
  · rw [app_tmps]
    cases hx : x.dst with
    | none => rfl
    | some d =>
      simp only
      rw [List.getElem?_set_ne (fun (e : d = t) => h1 d hx (by rw [e]; exact ht))]
  · rw [app_regs]
    by_cases hm : r ∈ touch x.e
    · rcases h2 r hm with h3 | ⟨h3, g, h4, h5⟩
      · exact (h3 hr).elim
      · rw [if_pos h3]
        intro g' hg' _
        rw [h5] at hg'
        cases hg'
        exact hk r g h4 hm s.regs
    · split
      · rw [shpAt_congr (look_app_not hm)]; exact fun _ _ h => h
      · exact look_app_not hm
  · rw [app_tmps]
    cases x.dst <;> simp
/-- x is done by the text alone. -/
theorem quiet_less {x y : Rec} (h : quietB x y = true) (s : St) (hk : ∀ r g, (r, g) ∈ x.keep → shpAt s.regs r = some g) : Sees y s (s.app x) := by
  obtain ⟨h1, h2⟩ := quiet_spec h
  refine ⟨fun t ht => ?_, fun r hr => ?_, ?_⟩
  · rw [app_tmps]
    cases hx : x.dst with
    | none => rfl
    | some d =>
      simp only
      rw [List.getElem?_set_ne (fun (e : d = t) => h1 d hx (by rw [e]; exact ht))]
  · rw [app_regs]
    by_cases hm : r ∈ touch x.e
    · rcases h2 r hm with h3 | ⟨h3, g, h4, h5⟩
      · exact (h3 hr).elim
      · rw [if_pos h3]
        intro g' hg' _
        rw [h5] at hg'
        cases hg'
        exact hk r g h4
    · split
      · rw [shpAt_congr (look_app_not hm)]; exact fun _ _ h => h
      · exact (look_app_not hm).symm
  · rw [app_tmps]
    cases x.dst <;> simp
theorem Sees.trans {y : Rec} {a b c : St} (h : Sees y a b) (k : Sees y b c) : Sees y a c := by
  refine ⟨fun t ht => (h.1 t ht).trans (k.1 t ht), fun r hr => ?_, h.2.2.trans k.2.2⟩
  have h1 := h.2.1 r hr
  have h2 := k.2.1 r hr
  split
  · rename_i hs
    rw [if_pos hs] at h1 h2
    exact fun g hg h => h1 g hg (h2 g hg h)
  · rename_i hs
    rw [if_neg hs] at h1 h2
    exact h1.trans h2
theorem Sees.refl (y : Rec) (a : St) : Sees y a a := ⟨fun _ _ => rfl, fun _ _ => by split; exact fun _ _ h => h; rfl, rfl⟩
theorem sees_after {y : Rec} : ∀ {rs : List Rec} {bs : List Bool} {s : St}, (∀ (j : Nat) x, rs[j]? = some x → bs[j]? = some true → quietB x y = true ∧ ∀ r g, (r, g) ∈ x.keep → r ∈ touch x.e → ∀ rs, shpAt (x.e.app rs) r = some g) → Sees y (foldL rs bs s) s
  | [], _, _, _ => by simpa [Go.Lift.foldL] using Sees.refl _ _
  | _ :: _, [], _, _ => by simpa [Go.Lift.foldL] using Sees.refl _ _
  | r :: rs, true :: bs, s, h => by
    simp only [Go.Lift.foldL]
    have h0 := h 0 r (by simp) (by simp)
    exact (sees_after fun j x h1 h2 => h (j + 1) x (by simpa using h1) (by simpa using h2)).trans (quiet_more h0.1 h0.2 s)
  | r :: rs, false :: bs, s, h => by
    simp only [Go.Lift.foldL]
    exact sees_after fun j x h1 h2 => h (j + 1) x (by simpa using h1) (by simpa using h2)
theorem sees_here {y : Rec} : ∀ {rs : List Rec} {bs : List Bool} {i : Nat} {s s' : St}, Sees y s s' → rs[i]? = some y → bs[i]? = some false →
    (∀ (j : Nat) x, j < i → rs[j]? = some x → (bs[j]? = some true ∨ quietB x y = true) ∧ ∀ r g, (r, g) ∈ x.keep → shpAt (foldAll (rs.take j) s').regs r = some g) →
    (∀ (j : Nat) x, i < j → rs[j]? = some x → bs[j]? = some true → quietB x y = true ∧ ∀ r g, (r, g) ∈ x.keep → r ∈ touch x.e → ∀ rs, shpAt (x.e.app rs) r = some g) →
    Sees y (foldL rs bs s) (foldAll (rs.take i) s')
  | [], _, i, _, _, _, h, _, _, _ => by simp at h
  | _ :: _, [], i, _, _, _, _, h, _, _ => by simp at h
  | r :: rs, b :: bs, 0, s, s', h, h1, h2, h3, h4 => by
    simp only [List.getElem?_cons_zero, Option.some.injEq] at h1 h2
    subst h2
    simp only [Go.Lift.foldL, List.take_zero, foldAll, List.foldl_nil]
    exact (sees_after (y := y) (s := s) fun j x e1 e2 => h4 (j + 1) x (by omega) (by simpa using e1) (by simpa using e2)).trans h
  | r :: rs, b :: bs, i + 1, s, s', h, h1, h2, h3, h4 => by
    simp only [List.getElem?_cons_succ] at h1 h2
    have h3' : ∀ (j : Nat) x, j < i → rs[j]? = some x → (bs[j]? = some true ∨ quietB x y = true) ∧ ∀ q g, (q, g) ∈ x.keep → shpAt (foldAll (rs.take j) (s'.app r)).regs q = some g := fun j x e0 e1 => by
      have := h3 (j + 1) x (by omega) (by simpa using e1)
      simpa [foldAll] using this
    have h4' : ∀ (j : Nat) x, i < j → rs[j]? = some x → bs[j]? = some true → quietB x y = true ∧ ∀ r g, (r, g) ∈ x.keep → r ∈ touch x.e → ∀ rs, shpAt (x.e.app rs) r = some g := fun j x e0 e1 e2 => h4 (j + 1) x (by omega) (by simpa using e1) (by simpa using e2)
    simp only [List.take_succ_cons, foldAll, List.foldl_cons]
    have h0 := h3 0 r (by omega) (by simp)
    simp only [List.getElem?_cons_zero, Option.some.injEq, List.take_zero, foldAll, List.foldl_nil] at h0
    cases b with
    | true =>
      simp only [Go.Lift.foldL]
      exact sees_here (h.app r) h1 h2 h3' h4'
    | false =>
      simp only [Go.Lift.foldL]
      refine sees_here (h.trans (quiet_less ?_ s' h0.2)) h1 h2 h3' h4'
      rcases h0.1 with h0 | h0
      · cases h0
      · exact h0

theorem weakS_addr {q : SV} {r : Nat} {p : List Step} (h : weakS q = .addr r p) : q = .addr r p := by
  cases q <;> first | exact h | cases h
theorem arg_ids {ops : Array Oper} {o : Oper} {tm : List AV} {x : Operand} {r : Nat} {p : List Step} (hx : argS tm (tmpsOf o.op.operands.toList) x = some (.addr r p)) : r ∈ allIdsAt (readsT ops o) tm := by
  unfold argS at hx
  split at hx
  · rename_i sv hsv
    cases hx
    cases x with
    | tmp t =>
      simp only [argA] at hsv
      split at hsv
      · rename_i hc
        refine List.mem_flatMap.2 ⟨t, ?_, ?_⟩
        · refine List.mem_append.2 (.inl ?_)
          simpa using hc
        · cases hv : tm[t]? with
          | none => rw [hv] at hsv; cases hsv
          | some av =>
            rw [hv] at hsv
            cases av with
            | gd k b w q =>
              simp only [Option.some.injEq, AV.s.injEq] at hsv
              have := weakS_addr hsv
              subst this; simp [AV.allIds, SV.allIds]
            | s q =>
              simp only [Option.some.injEq, AV.s.injEq] at hsv
              have := weakS_addr hsv
              subst this; simp [AV.allIds, SV.allIds]
            | tup q => cases hsv
            | fn f q => cases hsv
      · cases hsv
    | const c =>
      simp only [argA, Option.map_eq_some_iff] at hsv
      obtain ⟨q, hq, e⟩ := hsv
      cases e
      unfold constAV at hq
      split at hq <;> cases hq
    | func f => simp [argA] at hsv
    | global g => simp [argA] at hsv
  · cases hx
  · cases hx
  · cases hx
  · cases hx
/-- Two regions of one shape. -/
inductive Shp2 : Option Reg → Option Reg → Prop where
  | row (t : Ty) (xs ys : List t.den) (H H' : Holes) : Shp2 (some (.row t xs H)) (some (.row t ys H'))
  | box (t : Ty) (x y : t.den) (H H' : Holes) : Shp2 (some (.box t x H)) (some (.box t y H'))
theorem shp2_of {rs rs2 : Regs} {r : Nat} (h1 : (shpAt rs r).isSome = true) (h2 : shpAt rs2 r = shpAt rs r) : Shp2 (look rs r) (look rs2 r) := by
  unfold shpAt at h1 h2
  cases e1 : look rs r with
  | none => rw [e1] at h1; cases h1
  | some g =>
    rw [e1] at h1 h2
    cases e2 : look rs2 r with
    | none => rw [e2] at h2; cases g <;> first | (cases h2; done) | (cases h1; done)
    | some g2 =>
      rw [e2] at h2
      cases g <;> cases g2 <;> first | (cases h2; done) | (simp only [Option.some.injEq, Prod.mk.injEq, true_and] at h2; subst h2; constructor) | cases h1 | cases h2
theorem shp2_pty {a b : Option Reg} (h : Shp2 a b) : ∃ g g', a = some g ∧ b = some g' ∧ (∀ p, rootOb g p = false ∧ rootOb g' p = false) ∧ ∀ p, ptyR g p = ptyR g' p := by
  cases h with
  | row t xs ys H H' => exact ⟨_, _, rfl, rfl, fun p => ⟨by cases p <;> rfl, by cases p <;> rfl⟩, fun p => by cases p with
      | nil => rfl
      | cons c p => cases c <;> rfl⟩
  | box t x y H H' => exact ⟨_, _, rfl, rfl, fun p => ⟨by cases p <;> rfl, by cases p <;> rfl⟩, fun p => by cases p <;> rfl⟩
theorem fieldA_soft {gd : Bool} {P : Program} {rs rs2 : Regs} {s : TypeId} {x : SV} {k : Nat} (h : ∀ r p, x = .addr r p → Shp2 (look rs r) (look rs2 r)) : fieldA gd P rs s x k = fieldA gd P rs2 s x k := by
  unfold fieldA
  cases fieldOf P s k with
  | none => rfl
  | some q =>
    obtain ⟨ft, off⟩ := q
    cases x with
    | addr r p =>
      obtain ⟨g, g', e1, e2, e3, e4⟩ := shp2_pty (h r p rfl)
      simp only [e1, e2, (e3 p).1, (e3 p).2, e4]
      rfl
    | _ => rfl
theorem indexA_soft {P : Program} {rs rs2 : Regs} {t : TypeId} {x i : SV} {n : Nat} {e : TypeId} (ht : P.underlying t = some (.array n e)) (h : ∀ r p, x = .addr r p → Shp2 (look rs r) (look rs2 r)) : indexA P rs t x i = indexA P rs2 t x i := by
  unfold indexA
  split
  · rw [ht]
    cases x with
    | addr r p =>
      obtain ⟨g, g', e1, e2, e3, e4⟩ := shp2_pty (h r p rfl)
      simp only [e1, e2, (e3 p).1, (e3 p).2, e4]
    | ra t x => cases t <;> rfl
    | val t x => cases t <;> rfl
    | _ => rfl
  · rfl
/-- Such an operation reads no more than that. -/
theorem opG_soft {E : Env} {ops : Array Oper} {tm : List AV} {rs rs2 : Regs} {n : Nat} {o : Oper} (ho : isSoft E.P o = true) (h : ∀ r ∈ allIdsAt (readsT ops o) tm, Shp2 (look rs r) (look rs2 r)) :
    opG E ops tm rs n o = opG E ops tm rs2 n o := by
  have hA : ∀ x r p, argS tm (tmpsOf o.op.operands.toList) x = some (.addr r p) → Shp2 (look rs r) (look rs2 r) := fun x r p hx => h r (arg_ids hx)
  have hcall : isCallO o = false := by
    unfold isSoft at ho
    unfold isCallO
    split at ho <;> rename_i hop <;> first | rw [hop] | cases ho
  have key0 : opPlain E tm rs n o = opPlain E tm rs2 n o := by
    unfold isSoft at ho
    unfold opPlain
    split at ho
    · rename_i x hop
      rw [hop] at hA ⊢
      simp only [nilTest, core, hop]
      congr 1
      cases hx : argS tm (tmpsOf (Op.nilCheck x).operands.toList) x with
      | none => rfl
      | some v =>
        cases v with
        | addr r p =>
          have := hA x r p hx
          simp only
          generalize look rs r = a at this
          generalize look rs2 r = b at this
          cases this <;> rfl
        | _ => rfl
    · rename_i x hop; rw [hop]; simp only [nilTest, core, hop]
    · rename_i x hop; rw [hop]; simp only [nilTest, core, hop]
    · rename_i t x k hop
      rw [hop] at hA ⊢
      simp only [nilTest, core, hop]
      congr 1
      cases hx : argS tm (tmpsOf (Op.fieldAddr t x k).operands.toList) x with
      | none => rfl
      | some v =>
        simp only
        rw [fieldA_soft (rs2 := rs2) fun r p e => hA x r p (by rw [hx, e])]
    · rename_i t x i hop
      rw [hop] at hA ⊢
      simp only [nilTest, core, hop]
      congr 1
      split at ho
      · rename_i n' e ht
        cases hx : argS tm (tmpsOf (Op.indexAddr t x i).operands.toList) x with
        | none => rfl
        | some v =>
          cases hi : argS tm (tmpsOf (Op.indexAddr t x i).operands.toList) i with
          | none => rfl
          | some w =>
            simp only
            rw [indexA_soft (rs2 := rs2) ht fun r p e => hA x r p (by rw [hx, e])]
      · cases ho
    · cases ho
  have hpl : ∀ rs, planO E n rs tm o = [] := by
    intro rs
    have h9 : plan2 E n rs (argA tm (tmpsOf o.op.operands.toList)) (argS tm (tmpsOf o.op.operands.toList)) o.op = [] := by
      unfold isSoft at ho
      split at ho <;> rename_i hop <;> first | (rw [hop]; rfl) | cases ho
    unfold planO
    rw [h9]
  have key : opG0 E.on E.off n ops tm rs o (fun _ => opPlain E tm rs n o) = opG0 E.on E.off n ops tm rs2 o (fun _ => opPlain E tm rs2 n o) := by
    unfold opG0
    rw [key0]
    simp only [hcall, Bool.false_eq_true, if_false]
  unfold opG withG
  rw [hpl, hpl]
  simp only [key]

theorem fresh_app {cx : Cx} {s : St} {m : Nat} (h : FreshN cx s m) {x : Rec} (h1 : m ∉ touch x.e) (h2 : m ∉ x.av.allIds) (h3 : m ∉ effKids x.e) : FreshN cx (s.app x) m := by
  refine ⟨⟨?_, fun av hav hm => ?_, fun av hav hm => ?_, fun r g hg p hp => ?_⟩, h.2⟩
  · rw [app_regs, look_app_not h1]; exact h.1.1
  · rw [app_tmps] at hav
    cases hd : x.dst with
    | none => rw [hd] at hav; exact h.1.2.1 av hav hm
    | some d =>
      rw [hd] at hav
      rcases List.mem_or_eq_of_mem_set hav with h3 | h3
      · exact h.1.2.1 av h3 hm
      · subst h3; exact h2 (AV.allIds_spec hm)
  · rw [app_gh] at hav; exact h.1.2.2.1 av hav hm
  · rw [app_regs] at hg
    rcases look_app_kids hg with h4 | h4
    · exact h.1.2.2.2 r g h4 p hp
    · exact h3 (h4 p m hp)
theorem fresh_foldL {cx : Cx} {m : Nat} : ∀ {rs : List Rec} {bs : List Bool} {s : St}, FreshN cx s m → (∀ (j : Nat) x, rs[j]? = some x → bs[j]? = some true → m ∉ touch x.e ∧ m ∉ x.av.allIds ∧ m ∉ effKids x.e) → FreshN cx (foldL rs bs s) m
  | [], _, _, h, _ => by simpa [Go.Lift.foldL] using h
  | _ :: _, [], _, h, _ => by simpa [Go.Lift.foldL] using h
  | r :: rs, true :: bs, s, h, hj => by
    simp only [Go.Lift.foldL]
    obtain ⟨h1, h2, h3⟩ := hj 0 r (by simp) (by simp)
    exact fresh_foldL (fresh_app h h1 h2 h3) fun j x h1 h2 => hj (j + 1) x (by simpa using h1) (by simpa using h2)
  | r :: rs, false :: bs, s, h, hj => by
    simp only [Go.Lift.foldL]
    exact fresh_foldL h fun j x h1 h2 => hj (j + 1) x (by simpa using h1) (by simpa using h2)

theorem RelF.eqv {cx : Cx} {φ : Phi} {s s' : St} {a : Act} {w : World} (R : RelF cx φ s a w) (h : Eqv s s') : RelF cx φ s' a w := by
  have hok : okOf s.regs φ = okOf s'.regs φ := by
    funext b
    simp only [okOf, h.2]
  have hm : ∀ b o, okOf s.regs φ b → w.heap[b]? = some o → okOf s'.regs φ b ∧ w.heap[b]? = some o := fun b o h1 h2 => ⟨hok ▸ h1, h2⟩
  have R2 := R.fewer (rs' := s'.regs) fun r g hg => by rw [h.2]; exact hg
  exact ⟨R2.size, by rw [← h.1]; exact R2.len, R2.df, fun i av hi => R2.tm i av (by show s.tmps[i]? = some av; rw [h.1]; exact hi), by rw [← h.3]; exact R2.gh, R2.lay, R2.kp, R2.hB, R2.bs⟩

end Go.Lift
/- A region whose order is drawn: soundness. -/
namespace Go.Lift
open Go

def preOf (acc : List Rec) (o : Oper) : List Bool := o.after.toList.foldl (fun s e => if Region.binds .any e then orL (orL s (oneL e.on)) (match acc[e.on]? with
  | some r => r.pre
  | none => []) else s) []
def backB (k : Nat) (o : Oper) : Bool := o.after.toList.all fun e => !Region.binds .any e || decide (e.on < k)

def recsV (E : Env) (ops : Array Oper) : List Oper → List Rec → Nat → St → Option (List Prop × List Rec × St)
  | [], acc, _, st => some ([], acc, st)
  | o :: os, acc, n, st =>
    if backB acc.length o = true then
      match recVP E ops (preOf acc o) n o st with
      | some (vc, r) => forceRec r fun r => forceSt (stepSt st r.dst r.av r.e) fun st => match recsV E ops os (acc ++ [r]) (n + 16) st with
        | some (vc', rs, st') => some (vc ++ vc', rs, st')
        | none => none
      | none => none
    else none
def runDraw (E : Env) (ops : Array Oper) (st : St) : Option (List Prop × St) :=
  match recsV E ops ops.toList [] st.next st with
  | some (vc, rs, st') => if pairs 0 rs = true ∧ ops.size ≤ 64 then some (vc, bumpSt st st' 1024) else none
  | none => none

theorem preOf_spec {acc : List Rec} {o : Oper} {j : Nat} (h : (preOf acc o).getD j false = true) :
    ∃ e ∈ o.after.toList, Region.binds .any e = true ∧ (j = e.on ∨ ∃ r, acc[e.on]? = some r ∧ r.pre.getD j false = true) := by
  have key : ∀ (l : List Edge) (s : List Bool), (l.foldl (fun s e => if Region.binds .any e then orL (orL s (oneL e.on)) (match acc[e.on]? with
      | some r => r.pre
      | none => []) else s) s).getD j false = true → s.getD j false = true ∨ ∃ e ∈ l, Region.binds .any e = true ∧ (j = e.on ∨ ∃ r, acc[e.on]? = some r ∧ r.pre.getD j false = true) := by
    intro l
    induction l with
    | nil => intro s h; exact .inl h
    | cons e l ih =>
      intro s h
      simp only [List.foldl_cons] at h
      rcases ih _ h with h1 | ⟨e', h1, h2⟩
      · split at h1
        · rename_i hb
          rw [orL_get, orL_get] at h1
          simp only [Bool.or_eq_true] at h1
          rcases h1 with (h1 | h1) | h1
          · exact .inl h1
          · exact .inr ⟨e, List.mem_cons_self .., hb, .inl (oneL_get _ _ h1)⟩
          · refine .inr ⟨e, List.mem_cons_self .., hb, .inr ?_⟩
            split at h1
            · rename_i r hr; exact ⟨r, hr, h1⟩
            · simp at h1
        · exact .inl h1
      · exact .inr ⟨e', List.mem_cons_of_mem _ h1, h2⟩
  rcases key _ [] h with h1 | h1
  · simp at h1
  · exact h1

/-- What is known of the i-th. -/
def GoodR (E : Env) (ops : Array Oper) (n0 : Nat) (st0 : St) (recs : List Rec) (i : Nat) (r : Rec) : Prop :=
  ∃ o vc, ops[i]? = some o ∧ recV E ops (preOf (recs.take i) o) (n0 + 16 * i) o (foldAll (recs.take i) st0) = some (vc, r) ∧ (∀ p ∈ vc, p) ∧ backB i o = true

theorem recsV_spec {E : Env} {ops : Array Oper} {n0 : Nat} {st0 : St} : ∀ (os : List Oper) (acc : List Rec) (vc : List Prop) (recs : List Rec) (st' : St),
    (∀ i r, acc[i]? = some r → GoodR E ops n0 st0 acc i r) → Inv (foldAll acc st0).tmps → (∀ i, os[i]? = ops[acc.length + i]?) → recsV E ops os acc (n0 + 16 * acc.length) (foldAll acc st0) = some (vc, recs, st') → (∀ p ∈ vc, p) →
    recs.length = acc.length + os.length ∧ st' = foldAll recs st0 ∧ ∀ i r, recs[i]? = some r → GoodR E ops n0 st0 recs i r
  | [], acc, vc, recs, st', hacc, _, _, h, _ => by
    simp only [recsV, Option.some.injEq, Prod.mk.injEq] at h
    obtain ⟨_, rfl, rfl⟩ := h
    exact ⟨by simp, rfl, hacc⟩
  | o :: os, acc, vc, recs, st', hacc, hI, hos, h, hvc => by
    simp only [recsV, forceRec_eq, forceSt_eq, stepSt_eq] at h
    split at h
    · rename_i hb
      split at h
      · rename_i vc1' r hr'
        obtain ⟨⟨vc1, hr, hv1⟩, hI2⟩ := recVP_spec hI hr'
        split at h
        · rename_i vc2 rs st2 hrest
          cases h
          have e1 : foldAll (acc ++ [r]) st0 = (foldAll acc st0).app r := by simp [foldAll]
          have e2 : n0 + 16 * (acc ++ [r]).length = n0 + 16 * acc.length + 16 := by simp; omega
          have := recsV_spec os (acc ++ [r]) vc2 recs st' (fun i r' hi => ?_) (by rw [e1]; exact hI2) (fun i => ?_) (by rw [e1, e2]; exact hrest) (fun p hp => hvc p (by simp [hp]))
          · obtain ⟨j1, j2, j3⟩ := this
            exact ⟨by rw [j1]; simp; omega, j2, j3⟩
          · rcases Nat.lt_or_ge i acc.length with hlt | hge
            · rw [List.getElem?_append_left hlt] at hi
              obtain ⟨o', vc', k1, k2, k3, k4⟩ := hacc i r' hi
              refine ⟨o', vc', k1, ?_, k3, k4⟩
              rw [List.take_append_of_le_length (by omega)]
              exact k2
            · have hi' : i = acc.length := by
                rcases Nat.lt_or_ge acc.length i with h9 | h9
                · rw [List.getElem?_eq_none (by simp; omega)] at hi; cases hi
                · omega
              subst hi'
              rw [List.getElem?_append_right (Nat.le_refl _)] at hi
              simp only [Nat.sub_self, List.getElem?_cons_zero, Option.some.injEq] at hi
              subst hi
              refine ⟨o, vc1, by have := hos 0; simpa using this.symm, ?_, hv1 fun p hp => hvc p (by simp [hp]), hb⟩
              rw [List.take_append_of_le_length (Nat.le_refl _), List.take_length]
              exact hr
          · have := hos (i + 1)
            simp only [List.getElem?_cons_succ] at this
            rw [this]; simp only [List.length_append, List.length_cons, List.length_nil]; congr 1; omega
        · cases h
      · cases h
    · cases h

theorem grow_sub : ∀ (n : Nat) (rs : Regs) (ids : List Nat) {r : Nat}, r ∈ ids → r ∈ grow n rs ids
  | 0, _, _, _, h => h
  | n + 1, rs, ids, r, h => by
    simp only [grow]
    split
    · exact h
    · exact grow_sub n rs _ (List.mem_append_left _ h)
theorem recIds_sub {E : Env} {o : Oper} {ts : List Tmp} {st : St} {r : Nat} (h : r ∈ allIdsAt ts st.tmps) : r ∈ recIds E o ts st := by
  unfold recIds
  split
  · exact h
  · exact grow_sub _ _ _ h
/-- What a record that is not soft says of the holes. -/
structure Shut (ids : List Nat) (rs : Regs) (e : Eff) (n : Nat) : Prop where
  old : ∀ r ∈ ids, ∀ g, look rs r = some g → ∀ p m, (p, m) ∈ g.holes → m ∈ ids
  kids : ∀ m ∈ effKids e, m ∈ ids ∨ (n ≤ m ∧ m < n + 16)
  kind : ∀ r ∈ touch e, ∀ g0 g, look rs r = some g0 → look (e.app rs) r = some g → kindB g0 g = true
theorem Shut.closed {ids : List Nat} {rs rs2 : Regs} {e : Eff} {n : Nat} (h : Shut ids rs e n) (hl : ∀ r ∈ ids, look rs2 r = look rs r) (hf : ∀ r, n ≤ r → r < n + 16 → look rs2 r = none)
    (ht : ∀ r ∈ touch e, r ∈ ids ∨ (n ≤ r ∧ r < n + 16)) : Closed ids rs2 e n := by
  refine ⟨fun r hr g hg => h.old r hr g (by rw [← hl r hr]; exact hg), fun r hr g hg => ⟨fun p m hpm => ?_, fun g0 h0 => ?_⟩⟩
  · rcases look_app_kids hg with h1 | h1
    · rcases ht r hr with h2 | ⟨h2, h3⟩
      · exact .inl (h.old r h2 g (by rw [← hl r h2]; exact h1) p m hpm)
      · rw [hf r h2 h3] at h1; cases h1
    · exact h.kids m (h1 p m hpm)
  · rcases ht r hr with h2 | ⟨h2, h3⟩
    · refine h.kind r hr g0 g (by rw [← hl r h2]; exact h0) ?_
      rw [look_app_touch (rs' := rs2) hr]; exact hg
    · rw [hf r h2 h3] at h0; cases h0

theorem recV_spec {E : Env} {ops : Array Oper} {pre : List Bool} {n : Nat} {o : Oper} {st : St} {vc : List Prop} {r : Rec} (h : recV E ops pre n o st = some (vc, r)) :
    r.rd = readsT ops o ∧ (∀ s ∈ allIdsAt r.rd st.tmps, s ∈ r.ids) ∧ r.dst = o.dst ∧ r.n = n ∧ r.pre = pre ∧ opG E ops st.tmps (restr r.ids st.regs) n o = some (vc, r.av, r.e) ∧
    (∀ s ∈ touch r.e, (s ∈ r.ids ∧ (look st.regs s).isSome = true) ∨ (n ≤ s ∧ s < n + 16)) ∧ (∀ s ∈ r.av.allIds, s ∈ r.ids ∨ (n ≤ s ∧ s < n + 16)) ∧
    (r.soft = true → isSoft E.P o = true ∧ r.ids = allIdsAt r.rd st.tmps ∧ ∀ s ∈ r.ids, (shpAt st.regs s).isSome = true ∧ lk r.shp s = shpAt st.regs s) ∧ (∀ s g, (s, g) ∈ r.keep → s ∈ touch r.e ∧ shpAt st.regs s = some g ∧ shpAt (r.e.app st.regs) s = some g) ∧
    (¬ r.soft = true → Shut r.ids st.regs r.e n) := by
  unfold recV recOf at h
  simp only at h
  split at h
  · rename_i vc' av e hg
    split at h
    · rename_i hc
      cases h
      simp only [Bool.and_eq_true, List.all_eq_true, Bool.or_eq_true, List.contains_eq_mem, decide_eq_true_eq, inN] at hc
      refine ⟨rfl, fun s hs => recIds_sub hs, rfl, rfl, rfl, hg, hc.1.1, hc.1.2, ?_, ?_, ?_⟩
      · intro h
        have e1 : recIds E o (readsT ops o) st = allIdsAt (readsT ops o) st.tmps := by unfold recIds; rw [if_pos h]
        simp only [softB, Bool.and_eq_true, List.all_eq_true] at h
        exact ⟨h.1, e1, fun s hs => ⟨h.2 s (by simpa [e1] using hs), lk_shpsOf _ hs⟩⟩
      · intro s g h
        exact keepsOf_spec _ _ h
      · intro hs
        rcases hc.2 with h1 | ⟨⟨h1, h2⟩, h3⟩
        · exact (hs h1).elim
        · refine ⟨fun r hr g hg p m hpm => ?_, h2, fun r hr g0 g h0 hg => ?_⟩
          · simp only [shutB, List.all_eq_true] at h1
            have := h1 r hr
            rw [hg] at this
            simp only [List.all_eq_true, List.contains_eq_mem, decide_eq_true_eq] at this
            exact this (p, m) hpm
          · simp only [kindsB, List.all_eq_true] at h3
            have := h3 r hr
            rw [h0, hg] at this
            exact this
    · cases h
  · cases h

theorem count_set : ∀ {l : List Bool} {i : Nat}, l[i]? = some false → (l.set i true).count false + 1 = l.count false
  | [], i, h => by simp at h
  | b :: l, 0, h => by simp only [List.getElem?_cons_zero, Option.some.injEq] at h; subst h; simp
  | b :: l, i + 1, h => by
    simp only [List.getElem?_cons_succ] at h
    have := count_set (l := l) h
    simp only [List.set_cons_succ, List.count_cons]
    omega
theorem foldL_true : ∀ {rs : List Rec} {bs : List Bool} {s : St}, bs.length = rs.length → (∀ b ∈ bs, b = true) → foldL rs bs s = foldAll rs s
  | [], bs, s, h, _ => by cases bs <;> simp [foldL, foldAll]
  | r :: rs, [], s, h, _ => by simp at h
  | r :: rs, b :: bs, s, h, hb => by
    have : b = true := hb b (List.mem_cons_self ..)
    subst this
    simp only [foldL, foldAll, List.foldl_cons]
    exact foldL_true (by simpa using h) fun b hb' => hb b (List.mem_cons_of_mem _ hb')
theorem foldL_false : ∀ {rs : List Rec} {bs : List Bool} {s : St}, (∀ b ∈ bs, b = false) → foldL rs bs s = s
  | [], _, _, _ => by simp [foldL]
  | r :: rs, [], _, _ => by simp [foldL]
  | r :: rs, b :: bs, s, hb => by
    have : b = false := hb b (List.mem_cons_self ..)
    subst this
    simp only [foldL]
    exact foldL_false fun b hb' => hb b (List.mem_cons_of_mem _ hb')
theorem foldAll_next : ∀ (rs : List Rec) (s : St), (foldAll rs s).next = s.next
  | [], _ => rfl
  | r :: rs, s => by
    simp only [foldAll, List.foldl_cons]
    exact (foldAll_next rs (s.app r)).trans (app_next s r)

theorem runDraw_sound {E : Env} (hE : EnvOK E) {cx : Cx} (hP : cx.P = E.P) {ops : Array Oper} {Q : Exit → Act → World → Prop} {φ : Phi} {st st' : St} {a : Act} {w : World} {vc : List Prop}
    (hI : Inv st.tmps) (R : RelF cx φ st a w) (hF : FreshFrom cx st st.next) (h : runDraw E ops st = some (vc, st')) (hvc : ∀ p ∈ vc, p)
    (hQ : ∀ a' w' φ', RelF cx φ' st' a' w' → FreshFrom cx st' st'.next → Q .normal a' w') : wpAny cx.P .any ops Q ops.size (Array.replicate ops.size false) a w := by
  unfold runDraw at h
  split at h
  · rename_i vc' recs st1 hrec
    split at h
    · rename_i hpairs'
      have hpairs := hpairs'.1
      cases h
      obtain ⟨q1, q2, q3⟩ := recsV_spec (ops := ops) (n0 := st.next) (st0 := st) ops.toList [] vc recs st1 (fun i r hi => by simp at hi) (by simpa [foldAll] using hI) (fun i => by simp) (by simpa [foldAll] using hrec) hvc
      have hlen : recs.length = ops.size := by simpa using q1
      -- the facts on two of them
      have hpair : ∀ {i j : Nat} {x y : Rec}, i < j → recs[i]? = some x → recs[j]? = some y → noM x y.n = true ∧ (y.pre.getD i false = true ∨ (quietB x y = true ∧ quietB y x = true ∧ commB x y = true ∧ noM y x.n = true)) := by
        intro i j x y h1 h2 h3
        have := pairs_spec hpairs h1 h2 h3
        simp only [pairB, Bool.and_eq_true, Bool.or_eq_true, Nat.zero_add] at this
        exact ⟨this.1, this.2.imp id fun h => ⟨h.1.1.1, h.1.1.2, h.1.2, h.2⟩⟩
      have hnoM : ∀ {x : Rec} {m n : Nat}, noM x n = true → n ≤ m → m < n + 16 → m ∉ touch x.e ∧ m ∉ x.av.allIds ∧ m ∉ effKids x.e := by
        intro x m n h1 h2 h3
        simp only [noM, Bool.and_eq_true, List.all_eq_true, Bool.not_eq_true', inN, Bool.and_eq_false_iff, decide_eq_false_iff_not] at h1
        refine ⟨fun h => ?_, fun h => ?_, fun h => ?_⟩
        · rcases h1.1.1 m h with h4 | h4 <;> omega
        · rcases h1.1.2 m h with h4 | h4 <;> omega
        · rcases h1.2 m h with h4 | h4 <;> omega
      have hfresh : ∀ i, i ≤ recs.length → FreshFrom cx (foldAll (recs.take i) st) (st.next + 16 * i) := by
        intro i
        induction i with
        | zero => intro _; simpa [foldAll] using hF
        | succ i ih =>
          intro hi
          have hir : i < recs.length := by omega
          obtain ⟨o, vco, g1, g2, g3, g4⟩ := q3 i recs[i] (List.getElem?_eq_getElem hir)
          obtain ⟨_, _, _, _, _, s6, _⟩ := recV_spec g2
          have hlt : recs[i].av.ltB (st.next + 16 * i + 16) = true ∧ Eff.ltB (st.next + 16 * i + 16) recs[i].e = true := by
            exact opG_lt s6
          have e : foldAll (recs.take (i + 1)) st = (foldAll (recs.take i) st).app recs[i] := by
            unfold foldAll
            rw [List.take_succ_eq_append_getElem hir, List.foldl_append]
            rfl
          rw [e]
          exact (ih (by omega)).put hlt.1 hlt.2
      -- the order's invariant
      have main : ∀ (fuel : Nat) (listed : Array Bool) (a : Act) (w : World), listed.size = ops.size → listed.toList.count false = fuel →
          (∀ (j : Nat) (y : Rec), recs[j]? = some y → listed[j]? = some true → ∀ i, y.pre.getD i false = true → listed[i]? = some true) → (∃ φ, RelF cx φ (foldL recs listed.toList st) a w) → wpAny cx.P .any ops Q fuel listed a w := by
        intro fuel
        -- when none is ready, all are listed
        have hall : ∀ (listed : Array Bool), listed.size = ops.size → Region.ready .any ops listed = [] → ∀ b ∈ listed.toList, b = true := by
          intro listed hsz hr
          have hk : ∀ k, (hk : k < ops.size) → listed[k]? = some true := by
            intro k
            induction k using Nat.strongRecOn with
            | _ k ih =>
              intro hk
              by_cases hb : listed[k]? = some true
              · exact hb
              · exfalso
                have hkl : k < listed.size := by omega
                have hv : listed[k]? = some false := by
                  rw [Array.getElem?_eq_getElem hkl] at hb ⊢
                  cases hv : listed[k] with
                  | true => exact (hb (by rw [hv])).elim
                  | false => rfl
                have hrk : k < recs.length := by omega
                obtain ⟨o, vco, g1, g2, g3, g4⟩ := q3 k recs[k] (List.getElem?_eq_getElem hrk)
                have : k ∈ Region.ready .any ops listed := by
                  unfold Region.ready
                  rw [List.mem_filter]
                  refine ⟨List.mem_range.2 hk, ?_⟩
                  have e1 : listed.getD k true = false := by
                    rw [Array.getD_eq_getD_getElem?, hv]; rfl
                  rw [e1, g1]
                  simp only [Bool.not_false, Option.map_some, Option.getD_some, Bool.true_and]
                  rw [Array.all_eq_true_iff_forall_mem]
                  intro e he
                  simp only [backB, List.all_eq_true, Bool.or_eq_true, Bool.not_eq_true', decide_eq_true_eq] at g4
                  rcases g4 e (by simpa using he) with h1 | h1
                  · rw [h1]; rfl
                  · have := ih e.on h1 (by omega)
                    rw [Array.getD_eq_getD_getElem?, this]
                    simp
                rw [hr] at this
                cases this
          intro b hb
          obtain ⟨i, hi⟩ := List.mem_iff_getElem?.1 hb
          have hi' : i < listed.toList.length := (List.getElem?_eq_some_iff.1 hi).1
          have := hk i (by simp at hi'; omega)
          rw [← Array.getElem?_toList, hi] at this
          cases this
          rfl
        have hdone : ∀ (listed : Array Bool) (a : Act) (w : World), listed.size = ops.size → (∀ b ∈ listed.toList, b = true) → (∃ φ, RelF cx φ (foldL recs listed.toList st) a w) → Q .normal a w := by
          intro listed a w hsz hb hR
          obtain ⟨φ, R⟩ := hR
          rw [foldL_true (by simp [hsz, hlen]) hb, ← q2] at R
          refine hQ a w φ ⟨R.size, R.len, R.df, R.tm, R.gh, R.lay, R.kp, R.hB, R.bs⟩ ?_
          intro m hm
          have hm' : st.next + 16 * ops.size ≤ m := by have h9 : st.next + 1024 ≤ m := hm; have := hpairs'.2; omega
          have := hfresh recs.length (Nat.le_refl _) m (by rw [hlen]; exact hm')
          rw [List.take_length, ← q2] at this
          exact this
        induction fuel with
        | zero =>
          intro listed a w hsz hcnt hcl hR
          have hb : ∀ b ∈ listed.toList, b = true := by
            intro b hb
            cases b with
            | true => rfl
            | false => exact (List.count_eq_zero.1 hcnt hb).elim
          refine ⟨?_, hdone listed a w hsz hb hR⟩
          unfold Region.ready
          rw [List.filter_eq_nil_iff]
          intro k hk
          have hk' : k < listed.size := by rw [hsz]; exact List.mem_range.1 hk
          have : listed[k]? = some true := by
            rw [Array.getElem?_eq_getElem hk']
            rw [hb listed[k] (by simp)]
          rw [Array.getD_eq_getD_getElem?, this]
          simp
        | succ fuel ih =>
          intro listed a w hsz hcnt hcl hR
          refine ⟨fun hr => hdone listed a w hsz (hall listed hsz hr) hR, fun i hi => ?_⟩
          unfold Region.ready at hi
          rw [List.mem_filter] at hi
          obtain ⟨hi1, hi2⟩ := hi
          have hi1 := List.mem_range.1 hi1
          simp only [Bool.and_eq_true, Bool.not_eq_true'] at hi2
          obtain ⟨hi2, hi3⟩ := hi2
          have hil : listed[i]? = some false := by
            have hlt : i < listed.size := by omega
            rw [Array.getD_eq_getD_getElem?, Array.getElem?_eq_getElem hlt] at hi2
            rw [Array.getElem?_eq_getElem hlt]
            exact congrArg some hi2
          have hir : i < recs.length := by omega
          obtain ⟨o, vco, g1, g2, g3, g4⟩ := q3 i recs[i] (List.getElem?_eq_getElem hir)
          obtain ⟨s1, s2, s3, s4, s5, s6, s7, s8, s9, s10, s11⟩ := recV_spec g2
          generalize hr : recs[i] = r at *
          have hri : recs[i]? = some r := by rw [List.getElem?_eq_getElem hir, hr]
          rw [g1] at hi3
          simp only [Option.map_some, Option.getD_some] at hi3
          rw [Array.all_eq_true_iff_forall_mem] at hi3
          -- all before it are listed
          have hpre : ∀ j, r.pre.getD j false = true → listed[j]? = some true := by
            intro j hj
            rw [s5] at hj
            obtain ⟨e, e1, e2, e3⟩ := preOf_spec hj
            have he := hi3 e (by simpa using e1)
            rw [e2] at he
            simp only [Bool.not_true, Bool.false_or] at he
            have hel : listed[e.on]? = some true := by
              rw [Array.getD_eq_getD_getElem?] at he
              cases hl : listed[e.on]? with
              | none => rw [hl] at he; cases he
              | some b => rw [hl] at he; simp only [Option.getD_some] at he; rw [he]
            rcases e3 with e3 | ⟨r', e3, e4⟩
            · rw [e3]; exact hel
            · refine hcl e.on r' ?_ hel j e4
              rw [List.getElem?_take] at e3
              split at e3
              · exact e3
              · cases e3
          obtain ⟨φ, R⟩ := hR
          have hafter : ∀ (j : Nat) (y : Rec), i < j → recs[j]? = some y → listed.toList[j]? = some true → quietB r y = true ∧ quietB y r = true ∧ commB r y = true ∧ noM y r.n = true := by
            intro j y h1 h2 h3
            rcases (hpair h1 hri h2).2 with h4 | h4
            · have := hcl j y h2 (by simpa using h3) i h4
              rw [hil] at this; cases this
            · exact h4
          have hil' : listed.toList[i]? = some false := by simpa using hil
          have hsees := sees_here (y := r) (rs := recs) (bs := listed.toList) (i := i) (Sees.refl r st) hri hil'
            (fun j x h1 h2 => by
              refine ⟨?_, ?_⟩
              · rcases (hpair h1 h2 hri).2 with h4 | h4
                · exact .inl (by simpa using hpre j h4)
                · exact .inr h4.1
              · obtain ⟨o', vc', k1, k2, _, _⟩ := q3 j x h2
                exact fun q g hq => ((recV_spec k2).2.2.2.2.2.2.2.2.2.1 q g hq).2.1) (fun j x h1 h2 h3 => by
              refine ⟨(hafter j x h1 h2 h3).2.1, fun q g hq hq2 rs => ?_⟩
              obtain ⟨o', vc', k1, k2, _, _⟩ := q3 j x h2
              rw [shpAt_congr (look_app_touch (rs' := (foldAll (recs.take j) st).regs) hq2)]
              exact ((recV_spec k2).2.2.2.2.2.2.2.2.2.1 q g hq).2.2)
          generalize hS : foldL recs listed.toList st = S at *
          have hfr : ∀ k, k < 16 → FreshN cx S (st.next + 16 * i + k) := by
            intro k hk
            rw [← hS]
            refine fresh_foldL (hF _ (by omega)) fun j x h1 h2 => ?_
            rcases Nat.lt_trichotomy j i with h3 | h3 | h3
            · have := (hpair h3 h1 hri).1
              rw [s4] at this
              exact hnoM this (by omega) (by omega)
            · subst h3; rw [hil'] at h2; cases h2
            · have := (hafter j x h3 h1 h2).2.2.2
              rw [s4] at this
              exact hnoM this (by omega) (by omega)
          have hfr' : ∀ q, st.next + 16 * i ≤ q → q < st.next + 16 * i + 16 → look S.regs q = none := fun q h1 h2 => by
            have := (hfr (q - (st.next + 16 * i)) (by omega)).1.1
            rwa [show st.next + 16 * i + (q - (st.next + 16 * i)) = q from by omega] at this
          have hdone : ∀ (V : Value) (w' : World) (φ2 : Phi), RelF cx φ2 { S with regs := r.e.app S.regs } a w' → AVRel (r.e.app S.regs) φ2 (okOf (r.e.app S.regs) φ2) w' r.av V →
              wpAny cx.P .any ops Q fuel (listed.setIfInBounds i true) (a.put o.dst V) w' := by
            intro V w' φ2 R2 hav2
            have R3 := R2.put (dst := o.dst) hav2
            rw [← s3] at R3 ⊢
            refine ih (listed.setIfInBounds i true) _ w' (by simp [hsz]) ?_ ?_ ⟨φ2, ?_⟩
            · have := count_set hil'
              rw [Array.toList_setIfInBounds]
              omega
            · intro j y h1 h2 k hk
              have hkeep : ∀ k : Nat, listed[k]? = some true → (listed.setIfInBounds i true)[k]? = some true := by
                intro k h
                rw [Array.getElem?_setIfInBounds]
                split
                · rename_i e; subst e; rw [hil] at h; cases h
                · exact h
              rw [Array.getElem?_setIfInBounds] at h2
              split at h2
              · rename_i e
                subst e
                rw [hri] at h1
                cases h1
                exact hkeep k (hpre k hk)
              · exact hkeep k (hcl j y h1 h2 k hk)
            · rw [Array.toList_setIfInBounds]
              refine R3.eqv ?_
              rw [← hS]
              exact foldL_set hri hil' fun j y h1 h2 h3 => (hafter j y h1 h2 h3).2.2.1
          have htm : ∀ rs, opG E ops S.tmps rs (st.next + 16 * i) o = opG E ops (foldAll (recs.take i) st).tmps rs (st.next + 16 * i) o := fun rs => opG_local fun t ht => hsees.1 t (by rw [s1]; exact ht)
          by_cases hsoft : r.soft = true
          · obtain ⟨t1, t0, t2⟩ := s9 hsoft
            have hop : opG E ops S.tmps S.regs (st.next + 16 * i) o = some (vco, r.av, r.e) := by
              rw [← s6, htm]
              refine (opG_soft t1 fun q hq => ?_).symm
              rw [← s1, ← t0] at hq
              have := hsees.2.1 q hq
              rw [if_pos hsoft] at this
              obtain ⟨u1, u2⟩ := t2 q hq
              obtain ⟨g, hg⟩ := Option.isSome_iff_exists.1 u1
              rw [look_restr, if_pos hq]
              exact shp2_of u1 (by rw [hg]; exact this g (by rw [u2, hg]) hg)
            exact opG_does hE hP R hfr g1 hop g3 (fun V w' φ' R' hav => hdone V w' φ' R' hav)
          · have hlk : ∀ q ∈ r.ids, look S.regs q = look (foldAll (recs.take i) st).regs q := fun q hq => by
              have := hsees.2.1 q hq
              rw [if_neg hsoft] at this
              exact this
            have hop : opG E ops S.tmps (restr r.ids S.regs) (st.next + 16 * i) o = some (vco, r.av, r.e) := by
              rw [← s6, htm, restr_local (rs2 := (foldAll (recs.take i) st).regs) hlk]
            have hcl2 : Closed r.ids S.regs r.e (st.next + 16 * i) := (s11 hsoft).closed hlk hfr' fun q hq => (s7 q hq).imp (fun h => h.1) id
            refine opG_does hE (cx := cxIn cx φ S r.ids w) (st := stIn φ S r.ids) hP (R.into r.ids) (fun k hk => (hfr k hk).into r.ids) g1 hop g3 (fun V w' φ' R' hav => ?_)
            obtain ⟨φ2, R2, hav2⟩ := R.outof hfr R' (fun s hs => by
              rcases s7 s hs with ⟨h1, h2⟩ | h1
              · exact .inl ⟨h1, by rw [hlk s h1]; exact h2⟩
              · exact .inr h1) hcl2
            exact hdone V w' φ2 R2 (hav2 r.av V s8 hav)
      refine main ops.size _ a w (by simp) (by simp) ?_ ⟨φ, ?_⟩
      · intro j y h1 h2
        rw [Array.getElem?_replicate] at h2
        split at h2 <;> simp at h2
      · rw [foldL_false (by simp)]
        exact R
    · cases h
  · cases h

end Go.Lift
/- Code, abstract: what must hold for what is to come, and that the machine comes to it. -/
namespace Go.Lift
open Go

def AExit.conv : AExit → Exit
  | .normal => .normal
  | .exit id => .exit id
  | .ret => .ret

structure condP (c : Bool) (p q : Prop) : Prop where
  t : c = true → p
  f : c = false → q
structure condQ (e neg : Bool) (p q : Prop) : Prop where
  t : ((true != neg) = true → e = true) → p
  f : ((false != neg) = true → e = true) → q
/-- What a run that cannot be told stops at (nothing holds there). -/
inductive BadRegion (E : Env) (ops : Array Oper) (draw : Bool) (st : St) : Prop
inductive BadCond (st : St) : Prop
inductive BadCode (c : Code) : Prop
inductive BadNorm (ts : List Tmp) (st : St) : Prop
inductive BadHead (b : Nat) (st : St) : Prop
inductive BadLoop (b : Nat) (st : St) (K : AExit → St → Prop) : Prop
inductive BadRound (b : Nat) (e : AExit) (st : St) : Prop
def andAll : List Prop → Prop → Prop
  | [], p => p
  | q :: qs, p => q ∧ andAll qs p
theorem andAll_spec : ∀ {l : List Prop} {p : Prop}, andAll l p → (∀ q ∈ l, q) ∧ p
  | [], _, h => ⟨by simp, h⟩
  | q :: l, p, h => by
    obtain ⟨h1, h2⟩ := andAll_spec h.2
    exact ⟨fun r hr => by rcases List.mem_cons.1 hr with hr | hr; exact hr ▸ h.1; exact h1 r hr, h2⟩

/-! what a region of drawn order wants opened ahead of it (whatever this says, it is done soundly) -/
def onlyOld (rs : Regs) : G → Bool
  | .op r _ _ => (look rs r).isSome
  | .cl r m => (look rs r).isSome && (look rs m).isSome
def anyOpen : List G → Bool
  | [] => false
  | .op _ _ _ :: _ => true
  | .cl _ _ :: l => anyOpen l
def renumG : Nat → List G → List G
  | _, [] => []
  | c, .op r p _ :: l => .op r p c :: renumG (c + 1) l
  | c, .cl r m :: l => .cl r m :: renumG c l
def countG : List G → Nat
  | [] => 0
  | .op _ _ _ :: l => countG l + 1
  | .cl _ _ :: l => countG l
def simO (E : Env) (ops : Array Oper) (rs0 : Regs) : List Oper → Nat → St → List G
  | [], _, _ => []
  | o :: os, n, st =>
    let pl := planO E n st.regs st.tmps o
    if anyOpen pl && pl.all (onlyOld rs0) then pl else
      match opGP E ops st.tmps st.regs n o with
      | some (_, av, e) => forceSt (stepSt st o.dst av e) fun st => simO E ops rs0 os (n + 16) st
      | none => []
def hoist (E : Env) (ops : Array Oper) (n hi : Nat) : Nat → Nat → St → List G
  | 0, _, _ => []
  | k + 1, c, st => match renumG c (simO E ops st.regs ops.toList hi st) with
    | [] => []
    | pl => match runG n hi c pl st.regs with
      | some (_, e) => forceSt { st with regs := e.app st.regs } fun st => pl ++ hoist E ops n hi k (c + countG pl) st
      | none => []
def Reg.plainR : Reg → Bool
  | .row t _ _ => t.plain
  | .box t _ _ => t.plain
  | .obox t _ _ => t.plain
  | .mp _ v _ _ => v.plain
def env0 (E : Env) (n : Nat) (nb : Bool) : Env := ⟨E.P, E.sum, E.nio, E.head, E.after, E.leave, E.loops, E.vw, n, E.on, E.off, nb, E.inl, E.gen⟩
def runAny (E : Env) (ops : Array Oper) (st : St) : Option (List Prop × St) :=
  match (if st.regs.all (fun p => p.2.plainR) = true then [] else hoist (env0 E st.next true) ops st.next (st.next + 72) 8 (st.next + 8) st) with
  | [] => runDraw (env0 E st.next true) ops st
  | pl => match runG st.next (st.next + 72) (st.next + 8) pl st.regs with
    | some (vc, e) => forceSt ⟨st.tmps, e.app st.regs, st.next + 72, st.gh⟩ fun st1 => match runDraw (env0 E st.next true) ops st1 with
      | some (vc', st') => some (vc ++ vc', st')
      | none => none
    | none => none
def runRegion (E : Env) (ops : Array Oper) (draw : Bool) (st : St) : Option (List Prop × St) :=
  if draw = true then runAny E ops st
  else match runSeq (env0 E st.next false) ops ops.toList st.next st with
    | some (vc, st') => if ops.size ≤ 64 then some (vc, bumpSt st st' 1024) else none
    | none => none

/-- A test on which what is to be opened hangs. -/
def simS (E : Env) (ops : Array Oper) : List Oper → Nat → St → Option (Bool × (Nat × Bool))
  | [], _, _ => none
  | o :: os, n, st =>
    match (match o.guard with
      | some (j, want) => if offB E.off j want || offB E.on j want then none else match plan2 E n st.regs (argA st.tmps (tmpsOf o.op.operands.toList)) (argS st.tmps (tmpsOf o.op.operands.toList)) o.op with
        | [] => none
        | l => if l.all (freeG st.regs) = true then none else match guardKey ops st.tmps j want with
          | some (_, b, true) => some (b, (j, want))
          | some (_, b, false) => some (!b, (j, want))
          | none => none
      | none => none) with
    | some r => some r
    | none => match opGP E ops st.tmps st.regs n o with
      | some (_, av, e) => forceSt (stepSt st o.dst av e) fun st => simS E ops os (n + 16) st
      | none => match o.guard with
        | some (j, want) => if offB E.off j want || offB E.on j want then none else match guardKey ops st.tmps j want with
          | some (_, b, true) => some (b, (j, want))
          | some (_, b, false) => some (!b, (j, want))
          | none => none
        | none => none
def envT (E : Env) (on off : List (Nat × Bool)) : Env := ⟨E.P, E.sum, E.nio, E.head, E.after, E.leave, E.loops, E.vw, E.n0, on, off, E.nb, E.inl, E.gen⟩
/-- Does a run come to a pointer that is nothing? -/
def deadO (tm : List AV) (o : Oper) : Bool :=
  match o.op with
  | .nilCheck x => match argS tm (tmpsOf [x]) x with
    | some .nilp => true
    | _ => false
  | _ => false
def deadSeq (E : Env) (ops : Array Oper) : List Oper → Nat → St → Bool
  | [], _, _ => false
  | o :: os, n, st => match opGP E ops st.tmps st.regs n o with
    | some (_, av, e) => forceSt (stepSt st o.dst av e) fun st => deadSeq E ops os (n + 16) st
    | none => deadO st.tmps o
def badR (E : Env) (ops : Array Oper) (draw : Bool) (st : St) : Prop :=
  match deadSeq (env0 E st.next draw) ops ops.toList st.next st with
  | true => False
  | false => BadRegion E ops draw st
theorem badR_no {E : Env} {ops : Array Oper} {draw : Bool} {st : St} (h : badR E ops draw st) : False := by
  unfold badR at h
  split at h
  · exact h
  · exact nomatch h
/-- What was made under a test that was taken as so is forgotten behind the region. -/
def undefAt : List Nat → List AV → List AV
  | [], tm => tm
  | d :: l, tm => undefAt l (tm.set d (.s .undef))
def ungd (on : List (Nat × Bool)) (ops : Array Oper) (st : St) : St :=
  match on with
  | [] => st
  | _ => ⟨undefAt (ops.toList.filterMap fun o => if o.guard.isSome = true then o.dst else none) st.tmps, st.regs, st.next, st.gh⟩
/-- What is new gets a name. -/
def genL (n : Nat) : Regs → (Regs → Prop) → Prop
  | [], k => k []
  | (r, .obox t x H) :: rs, k => match Nat.ble n r with
    | true => ∀ y, y = x → genL n rs fun rs => k ((r, .obox t y H) :: rs)
    | false => genL n rs fun rs => k ((r, .obox t x H) :: rs)
  | p :: rs, k => genL n rs fun rs => k (p :: rs)
theorem genL_spec {n : Nat} : ∀ {rs : Regs} {k : Regs → Prop}, genL n rs k → k rs
  | [], _, h => h
  | (r, .obox t x H) :: rs, k, h => by
    simp only [genL] at h
    split at h
    · exact genL_spec (k := fun rs => k ((r, .obox t x H) :: rs)) (h x rfl)
    · exact genL_spec (k := fun rs => k ((r, .obox t x H) :: rs)) h
  | (r, .row t x H) :: rs, k, h => genL_spec (k := fun rs => k ((r, .row t x H) :: rs)) h
  | (r, .box t x H) :: rs, k, h => genL_spec (k := fun rs => k ((r, .box t x H) :: rs)) h
  | (r, .mp a b x H) :: rs, k, h => genL_spec (k := fun rs => k ((r, .mp a b x H) :: rs)) h
def genK (b : Bool) (n : Nat) (st : St) (K : St → Prop) : Prop :=
  match b with
  | false => K st
  | true => genL n st.regs fun rs => K ⟨st.tmps, rs, st.next, st.gh⟩
theorem genK_spec {b : Bool} {n : Nat} {st : St} {K : St → Prop} (h : genK b n st K) : K st := by
  unfold genK at h
  split at h
  · exact h
  · exact genL_spec (k := fun rs => K ⟨st.tmps, rs, st.next, st.gh⟩) h
def regP (E : Env) (ops : Array Oper) (draw : Bool) (st : St) (K : St → Prop) : Nat → List (Nat × Bool) → List (Nat × Bool) → Prop
  | 0, on, off => match runRegion (envT E on off) ops draw st with
    | some (vc, st') => andAll vc (genK E.gen st.next (ungd on ops st') K)
    | none => badR (envT E on off) ops draw st
  | k + 1, on, off => match (if st.regs.all (fun p => p.2.plainR) = true then none else simS (env0 (envT E on off) st.next draw) ops ops.toList (st.next + 72) st) with
    | some (c, g) => condP c (regP E ops draw st K k (g :: on) off) (regP E ops draw st K k on (g :: off))
    | none => match runRegion (envT E on off) ops draw st with
      | some (vc, st') => andAll vc (genK E.gen st.next (ungd on ops st') K)
      | none => match simS (env0 (envT E on off) st.next draw) ops ops.toList (st.next + 72) st with
        | some (c, g) => condP c (regP E ops draw st K k (g :: on) off) (regP E ops draw st K k on (g :: off))
        | none => badR (envT E on off) ops draw st

/-! a region in which a call is run through in place -/
inductive BadInl (E : Env) (ops : Array Oper) (o : Oper) (n : Nat) (st : St) : Prop
def inlAt : List (FuncId × InlP) → FuncId → Option InlP
  | [], _ => none
  | (g, H) :: l, f => if Nat.beq g f = true then some H else inlAt l f
def mapArgsA (arg : Operand → Option AV) : List Operand → Option (List AV)
  | [] => some []
  | x :: xs => match arg x, mapArgsA arg xs with
    | some v, some vs => some (v :: vs)
    | _, _ => none
def inlCall (E : Env) (st : St) (o : Oper) : Option (List Prop × InlP × List AV) :=
  match o.op, o.guard with
  | .call { callee := .value f, args := args, argTypes := _ }, none =>
    match argF st.tmps (tmpsOf (f :: args.toList)) f, mapArgsA (argA st.tmps (tmpsOf (f :: args.toList))) args.toList with
    | some (.fn fid caps), some vs => match inlAt E.inl fid with
      | some H => if callable E.P fid = true then some (gdVC st.tmps (tmpsOf (f :: args.toList)), H, vs ++ caps.map AV.s) else none
      | none => none
    | _, _ => none
  | _, _ => none
def isInlO (l : List (FuncId × InlP)) (o : Oper) : Bool :=
  match o.op with
  | .call { callee := .value (.func f), args := _, argTypes := _ } => (inlAt l f).isSome
  | .call { callee := .value (.tmp _), args := _, argTypes := _ } => true
  | _ => false
def anyInl (E : Env) (ops : Array Oper) : Bool :=
  match E.inl with
  | [] => false
  | l => ops.toList.any (isInlO l)
def runI (E : Env) (ops : Array Oper) : List Oper → Nat → St → (St → Prop) → Prop
  | [], n, st, K => K ⟨st.tmps, st.regs, n, st.gh⟩
  | o :: os, n, st, K => match inlCall E st o with
    | some (vc, H, vs) => andAll vc (H vs ⟨st.tmps, st.regs, n, st.gh⟩ fun av st2 => forceSt (cleanSt (st2.put o.dst av)) fun st2 => runI E ops os st2.next st2 K)
    | none => match opGP E ops st.tmps st.regs n o with
      | some (vc, av, e) => andAll vc (forceSt (stepSt st o.dst av e) fun st => runI E ops os (n + 16) st K)
      | none => match deadO st.tmps o with
        | true => False
        | false => BadInl E ops o n st
def regI (E : Env) (ops : Array Oper) (draw : Bool) (st : St) (K : St → Prop) : Prop :=
  match draw, anyInl E ops with
  | false, true => runI (env0 E st.next false) ops ops.toList st.next st K
  | _, _ => regP E ops draw st K 6 [] []

def nrmAt (E : Env) (b : Nat) (st : St) : Option St := norm E.nio (E.head b).1 (ownNil (E.head b).2 st)
def aft (E : Env) (id : Nat) (K : AExit → St → Prop) (st : St) : Prop :=
  match E.after id with
  | some ts => match norm E.nio ts st with
    | some st => K .normal st
    | none => BadNorm ts st
  | none => K .normal st

def loopP (E : Env) (b : Nat) (K : AExit → St → Prop) (st : St) : Prop :=
  match nrmAt E b st with
  | some st0 => match E.loops b with
    | some L => L.enter st0 K
    | none => BadLoop b st0 K
  | none => BadHead b st
def awp (E : Env) : Code → Nat → (AExit → St → Prop) → St → Prop
  | .skip, _, K, st => K .normal st
  | .label _, _, K, st => K .normal st
  | .region _ ops draw, _, K, st => forceSt (cleanSt st) fun st => regI E ops draw st (K .normal)
  | .seq x y, b, K, st => awp E x b (fun e st' => match e with
      | .normal => awp E y b K st'
      | .exit id => K (.exit id) st'
      | .ret => K .ret st') st
  | .cond c x y, b, K, st => match rawV st.tmps c with
    | some (vc, .val .bool v) => andAll vc (condP v (awp E x b K st) (awp E y b K st))
    | some (vc, .nilq e neg) => andAll vc (condQ e neg (awp E x b K st) (awp E y b K st))
    | _ => BadCond st
  | .block id c, _, K, st => awp E c id (fun e st' => match e with
      | .normal => aft E id K st'
      | .exit id' => if id' = id then aft E id K st' else K (.exit id') st'
      | .ret => K .ret st') st
  | .loop _, b, K, st => loopP E b K st
  | .exit id, _, K, st => K (.exit id) st
  | .ret, _, K, st => K .ret st
  | c, _, _, _ => BadCode c

/-- What a loop's telling stands on: one round. -/
def roundP (E : Env) (b : Nat) (L : Loop) (m : Nat) (K : AExit → St → Prop) (e : AExit) (st : St) : Prop :=
  match e with
  | .normal => match nrmAt E b st with
    | some st2 => L.again m st2 K
    | none => BadHead b st
  | e => match norm E.nio (E.leave b) st with
    | some st2 => K e st2
    | none => BadRound b e st
def LoopOK (E : Env) (b : Nat) (c : Code) (L : Loop) : Prop :=
  ∀ x y K, L.pre x y → L.out x y K → awp E c b (roundP E b L (L.m x y) K) (L.abs x y)
def loopList : Code → Nat → List (Nat × Code)
  | .seq x y, b => loopList x b ++ loopList y b
  | .cond _ x y, b => loopList x b ++ loopList y b
  | .block id c, _ => loopList c id
  | .loop c, b => (b, c) :: loopList c b
  | _, _ => []
def loopsAll (E : Env) : List (Nat × Code) → Prop
  | [] => True
  | (b, c) :: l => (match E.loops b with
    | some L => LoopOK E b c L
    | none => True) ∧ loopsAll E l
theorem loopsAll_append {E : Env} : ∀ {l l' : List (Nat × Code)}, loopsAll E (l ++ l') → loopsAll E l ∧ loopsAll E l'
  | [], _, h => ⟨trivial, h⟩
  | (_, _) :: l, l', h => by
    obtain ⟨h1, h2⟩ := h
    obtain ⟨h3, h4⟩ := loopsAll_append (l := l) h2
    exact ⟨⟨h1, h3⟩, h4⟩

def RelN (cx : Cx) (st : St) (a : Act) (w : World) : Prop := (∃ φ, RelF cx φ st a w) ∧ FreshFrom cx st st.next

theorem wp_loop_n {P : Program} {Q : Exit → Act → World → Prop} {c : Code} (I : Nat → Act → World → Prop) {a : Act} {w : World} {n : Nat} (h₀ : I n a w)
    (round : ∀ n a w, I n a w → c.wp P (Exit.then (fun a' w' => ∃ m, m < n ∧ I m a' w') Q) a w) : (Code.loop c).wp P Q a w := by
  intro b k cs
  have key : ∀ n a w, I n a w → ∃ e a' w', Q e a' w' ∧ Arrives P (lone (b.at a (.code c :: .inLoop c :: k)) cs w) b k cs e a' w' := by
    intro n
    induction n using Nat.strongRecOn with
    | _ n ih =>
      intro a w hI
      obtain ⟨e, a₁, w₁, hq, harr⟩ := round n a w hI b (.inLoop c :: k) cs
      cases e with
      | normal =>
        obtain ⟨m, hm, hI₁⟩ := hq
        obtain ⟨e₂, a₂, w₂, hq₂, harr₂⟩ := ih m hm a₁ w₁ hI₁
        exact ⟨e₂, a₂, w₂, hq₂, .of_steps (Steps.trans harr (.one step_inLoop)) harr₂⟩
      | exit id => exact ⟨_, a₁, w₁, hq, .pass (x := .inLoop c) rfl (fun _ _ => .inl (by simp)) harr⟩
      | goto l => exact ⟨_, a₁, w₁, hq, .pass (x := .inLoop c) rfl (fun _ _ => .inl (by simp)) harr⟩
      | ret => exact ⟨_, a₁, w₁, hq, .pass (x := .inLoop c) rfl (fun _ _ => .inl (by simp)) harr⟩
      | panic ch => exact ⟨_, a₁, w₁, hq, .pass (x := .inLoop c) rfl (fun _ _ => .inl (by simp)) harr⟩
      | outgrown => exact ⟨_, a₁, w₁, hq, .pass (x := .inLoop c) rfl (fun _ _ => .inl (by simp)) harr⟩
  obtain ⟨e, a', w', hq, harr⟩ := key n a w h₀
  exact ⟨e, a', w', hq, .of_steps (.one step_loop) harr⟩

theorem RelN.norm {cx : Cx} {st st' : St} {a : Act} {w : World} (R : RelN cx st a w) {nio : Nat} (hio : ∀ r l, (r, l) ∈ cx.io → r < nio) {ts : List Tmp} (h : norm nio ts st = some st') : RelN cx st' a w := by
  obtain ⟨⟨φ, R⟩, _⟩ := R
  exact norm_sound R hio h
theorem RelN.wk {cx : Cx} {st : St} {a : Act} {w : World} (L : Loop) (R : RelN cx st a w) : RelN cx (wkSt L st) a w := by
  obtain ⟨⟨φ, R⟩, hF⟩ := R
  have h := wkRg_wk L.rs st.regs
  refine ⟨⟨φ, RelF.wk h R⟩, fun m hm => ⟨⟨h.none (hF m hm).1.1, (hF m hm).1.2.1, (hF m hm).1.2.2.1, fun r g hg p hp => ?_⟩, (hF m hm).2⟩⟩
  obtain ⟨g0, h1, h2⟩ := h.dom hg
  exact (hF m hm).1.2.2.2 r g0 h1 p (by rw [(WkR.spec h2).2.1]; exact hp)
theorem RelN.nrmAt {cx : Cx} {st st' : St} {a : Act} {w : World} (R : RelN cx st a w) {E : Env} (hio : ∀ r l, (r, l) ∈ cx.io → r < E.nio) {b : Nat} (h : nrmAt E b st = some st') : RelN cx st' a w := by
  obtain ⟨⟨φ, R⟩, hF⟩ := R
  obtain ⟨⟨φ', R'⟩, _⟩ := ownNil_sound (E.head b).2 R hF
  exact norm_sound R' hio h

theorem env0_ok {E : Env} (hE : EnvOK E) (n : Nat) (nb : Bool) : EnvOK (env0 E n nb) := hE
theorem runAny_sound {E : Env} (hE : EnvOK E) {cx : Cx} (hP : cx.P = E.P) {ops : Array Oper} {Q : Exit → Act → World → Prop} {φ : Phi} {st st' : St} {a : Act} {w : World} {vc : List Prop}
    (hI : Inv st.tmps) (R : RelF cx φ st a w) (hF : FreshFrom cx st st.next) (h : runAny E ops st = some (vc, st')) (hvc : ∀ p ∈ vc, p)
    (hQ : ∀ a' w' φ', RelF cx φ' st' a' w' → FreshFrom cx st' st'.next → Q .normal a' w') : wpAny cx.P .any ops Q ops.size (Array.replicate ops.size false) a w := by
  unfold runAny at h
  split at h
  · exact runDraw_sound (E := env0 E st.next true) (env0_ok hE _ _) hP hI R hF h hvc hQ
  · split at h
    · rename_i vc1 e h1
      rw [forceSt_eq] at h
      split at h
      · rename_i vc2 st2 h2
        cases h
        obtain ⟨⟨φ1, R1⟩, hf1⟩ := runG_sound (D := fun k => st.next + 72 ≤ k) (fun k h => .inr h) _ _ R (by omega) (by omega) (fun k hk => hF k (by omega)) h1 (fun P hP => hvc P (List.mem_append_left _ hP))
        exact runDraw_sound (E := env0 E st.next true) (st := ⟨st.tmps, e.app st.regs, st.next + 72, st.gh⟩) (env0_ok hE _ _) hP hI ⟨R1.size, R1.len, R1.df, R1.tm, R1.gh, R1.lay, R1.kp, R1.hB, R1.bs⟩ (fun k hk => hf1 k hk) h2
          (fun P hP => hvc P (List.mem_append_right _ hP)) hQ
      · cases h
    · cases h

theorem runRegion_sound {E : Env} (hE : EnvOK E) {cx : Cx} (hP : cx.P = E.P) {st st' : St} (hI : Inv st.tmps) {a : Act} {w : World} (R : RelN cx st a w) {id : Nat} {ops : Array Oper} {draw : Bool} {vc : List Prop}
    (h : runRegion E ops draw st = some (vc, st')) (hvc : ∀ p ∈ vc, p) {Q : Exit → Act → World → Prop} (hQ : ∀ a' w', RelN cx st' a' w' → Q .normal a' w') : (Code.region id ops draw).wp cx.P Q a w := by
  unfold runRegion at h
  split at h
  · rename_i hd
    subst hd
    obtain ⟨⟨φ, R⟩, hF⟩ := R
    refine wp_region_any (by rw [hP]; exact hE.2) ?_
    exact runAny_sound hE hP hI (R.heap (w' := { w with drawn := w.drawn + 1 }) rfl rfl rfl rfl) hF h hvc (fun a' w' φ' R' hF' => hQ a' w' ⟨⟨φ', R'⟩, hF'⟩)
  · rename_i hd
    have hd' : draw = false := by simpa using hd
    subst hd'
    split at h
    · rename_i vc' st2 hr
      split at h
      case isFalse => cases h
      rename_i hsz
      cases h
      obtain ⟨⟨φ, R⟩, hF⟩ := R
      refine wp_region ?_
      have := runSeq_sound (Q := Q) (E := env0 E st.next false) (env0_ok hE _ _) hP ops.toList 0 st.next st st2 φ a w vc (fun i => by simp) (by simp) hI R hF hr hvc (fun a' w' φ' R' hF' => hQ a' w' ⟨⟨φ', ⟨R'.size, R'.len, R'.df, R'.tm, R'.gh, R'.lay, R'.kp, R'.hB, R'.bs⟩⟩, ?_⟩)
      · simpa [List.range_eq_range'] using this
      · intro m hm
        have hm' : st.next + 16 * ops.size ≤ m := by have h9 : st.next + 1024 ≤ m := hm; omega
        exact hF' m (by simpa using hm')
    · cases h

theorem RelN.undefAt {cx : Cx} {a : Act} {w : World} : ∀ (l : List Nat) {st : St}, RelN cx st a w → RelN cx ⟨Lift.undefAt l st.tmps, st.regs, st.next, st.gh⟩ a w
  | [], st, R => R
  | d :: l, st, ⟨⟨φ, R⟩, hF⟩ => by
    refine RelN.undefAt l (st := ⟨st.tmps.set d (.s .undef), st.regs, st.next, st.gh⟩) ⟨⟨φ, R.size, by simpa using R.len, R.df, fun i av hi => ?_, R.gh, R.lay, R.kp, R.hB, R.bs⟩, fun m hm => ?_⟩
    · rw [List.getElem?_set] at hi
      split at hi
      · split at hi
        · cases hi; trivial
        · cases hi
      · exact R.tm i av hi
    · obtain ⟨⟨h1, h2, h4, h5⟩, h3⟩ := hF m hm
      refine ⟨⟨h1, fun av hav hmen => ?_, h4, h5⟩, h3⟩
      rcases List.mem_or_eq_of_mem_set hav with h | h
      · exact h2 av h hmen
      · subst h; exact hmen
theorem RelN.ungd {cx : Cx} {st : St} {a : Act} {w : World} (R : RelN cx st a w) (on : List (Nat × Bool)) (ops : Array Oper) : RelN cx (Lift.ungd on ops st) a w := by
  unfold Lift.ungd
  split
  · exact R
  · exact R.undefAt _
theorem regP_sound {E : Env} (hE : EnvOK E) {cx : Cx} (hP : cx.P = E.P) {st : St} (hI : Inv st.tmps) {a : Act} {w : World} (R : RelN cx st a w) {id : Nat} {ops : Array Oper} {draw : Bool} {K : St → Prop} {Q : Exit → Act → World → Prop}
    (hQ : ∀ st' a' w', K st' → RelN cx st' a' w' → Q .normal a' w') : ∀ (k : Nat) (on off : List (Nat × Bool)), regP E ops draw st K k on off → (Code.region id ops draw).wp cx.P Q a w := by
  have run : ∀ on off, (match runRegion (envT E on off) ops draw st with
      | some (vc, st') => andAll vc (genK E.gen st.next (ungd on ops st') K)
      | none => badR (envT E on off) ops draw st) → (Code.region id ops draw).wp cx.P Q a w := by
    intro on off h
    split at h
    · rename_i vc st' hr
      obtain ⟨hvc, hK⟩ := andAll_spec h
      exact runRegion_sound (E := envT E on off) hE hP hI R hr hvc (fun a' w' R' => hQ _ a' w' (genK_spec hK) (R'.ungd _ _))
    · exact (badR_no h).elim
  intro k
  induction k with
  | zero => intro on off h; exact run on off h
  | succ k ih =>
    intro on off h
    simp only [regP] at h
    split at h
    · rename_i c g _
      cases hc : c with
      | true => exact ih _ _ (h.t hc)
      | false => exact ih _ _ (h.f hc)
    · split at h
      · rename_i vc st' hr
        obtain ⟨hvc, hK⟩ := andAll_spec h
        exact runRegion_sound (E := envT E on off) hE hP hI R hr hvc (fun a' w' R' => hQ _ a' w' (genK_spec hK) (R'.ungd _ _))
      · split at h
        · rename_i c g _
          cases hc : c with
          | true => exact ih _ _ (h.t hc)
          | false => exact ih _ _ (h.f hc)
        · exact (badR_no h).elim

/-- What a call in place must do. -/
def InlOK (P : Program) (nio : Nat) (f : FuncId) (H : InlP) : Prop :=
  ∀ (cx : Cx), cx.P = P → (∀ r l, (r, l) ∈ cx.io → r < nio) → ∀ (st : St) (a : Act) (w : World) (φ : Phi) (args : List AV) (Args : List Value) (K : AV → St → Prop), RelF cx φ st a w → FreshFrom cx st st.next →
    All2 (AVRel st.regs φ (okOf st.regs φ) w) args Args → H args st K →
    Calls cx.P f Args.toArray w fun e' w' => ∃ V av st' φ', e' = .returned V ∧ K av st' ∧ RelF cx φ' st' a w' ∧ AVRel st'.regs φ' (okOf st'.regs φ') w' av V ∧ FreshFrom cx st' st'.next ∧ av.ltB st'.next = true
def InlsOK (E : Env) : Prop := ∀ f H, inlAt E.inl f = some H → InlOK E.P E.nio f H
theorem InlsOK.nil {E : Env} (h : E.inl = []) : InlsOK E := by
  intro f H hf
  rw [h] at hf; cases hf
theorem mapArgsA_sound {arg : Operand → Option AV} {S : AV → Value → Prop} {ev : Operand → Value} (h : ∀ x v, arg x = some v → S v (ev x)) : ∀ (xs : List Operand) (vs : List AV), mapArgsA arg xs = some vs → All2 S vs (xs.map ev)
  | [], vs, hm => by simp only [mapArgsA, Option.some.injEq] at hm; subst hm; exact .nil
  | x :: rest, vs, hm => by
    simp only [mapArgsA] at hm
    split at hm
    · rename_i v vs' h1 h2
      cases hm
      exact .cons (h _ _ h1) (mapArgsA_sound h rest vs' h2)
    · cases hm
theorem FreshFrom.put0 {cx : Cx} {st : St} {n : Nat} (h : FreshFrom cx st n) {dst : Option Tmp} {av : AV} (ha : av.ltB n = true) : FreshFrom cx (st.put dst av) n := by
  intro m hm
  obtain ⟨⟨h1, h2, h4, h5⟩, h3⟩ := h m hm
  refine ⟨⟨by rw [St.put_regs]; exact h1, ?_, by rw [St.put_gh]; exact h4, by rw [St.put_regs]; exact h5⟩, h3⟩
  intro x hx hmen
  cases dst with
  | none => exact h2 x hx hmen
  | some d =>
    simp only [St.put] at hx
    rcases List.mem_or_eq_of_mem_set hx with hx | hx
    · exact h2 x hx hmen
    · subst hx
      have := AV.ltB_spec ha hmen
      omega
theorem runI_sound {E : Env} (hE : EnvOK E) (hN : InlsOK E) {cx : Cx} (hP : cx.P = E.P) (hio : ∀ r l, (r, l) ∈ cx.io → r < E.nio) {ops : Array Oper} {Q : Exit → Act → World → Prop} {K : St → Prop}
    (hQ : ∀ st' a' w', K st' → RelN cx st' a' w' → Q .normal a' w') : ∀ (os : List Oper) (k n : Nat) (st : St) (φ : Phi) (a : Act) (w : World),
    (∀ i, os[i]? = ops[k + i]?) → k + os.length = ops.size → Inv st.tmps → RelF cx φ st a w → FreshFrom cx st n → runI E ops os n st K → wpOps cx.P ops Q (List.range' k os.length) a w
  | [], k, n, st, φ, a, w, _, _, _, R, hF, h => hQ ⟨st.tmps, st.regs, n, st.gh⟩ a w h ⟨⟨φ, ⟨R.size, R.len, R.df, R.tm, R.gh, R.lay, R.kp, R.hB, R.bs⟩⟩, hF⟩
  | o :: os, k, n, st, φ, a, w, hos, hlen, hI, R, hF, h => by
    have hk : ops[k]? = some o := by have := hos 0; simpa using this.symm
    have hos' : ∀ i, os[i]? = ops[k + 1 + i]? := fun i => by
      have := hos (i + 1)
      simp only [List.getElem?_cons_succ] at this
      rw [this]; congr 1; omega
    simp only [List.length_cons, List.range'_succ]
    rw [wpOps_cons]
    simp only [runI] at h
    split at h
    · rename_i vc H vs hc
      obtain ⟨hvc, hH⟩ := andAll_spec h
      unfold inlCall at hc
      split at hc
      · rename_i f args ty ho hg
        split at hc
        · rename_i fid caps vs0 hfn hvs
          split at hc
          · rename_i H0 hH0
            split at hc
            · rename_i hcall
              cases hc
              have R0 : RelF cx φ ⟨st.tmps, st.regs, n, st.gh⟩ a w := ⟨R.size, R.len, R.df, R.tm, R.gh, R.lay, R.kp, R.hB, R.bs⟩
              obtain ⟨cs, hcs, hcaps⟩ := argF_sound R hvc hfn
              have hargs := mapArgsA_sound (S := AVRel st.regs φ (okOf st.regs φ) w) (ev := a.eval) (fun x v hx => argA_sound R hvc hx) _ _ hvs
              have hcaps' : All2 (AVRel st.regs φ (okOf st.regs φ) w) (caps.map AV.s) cs.toList := by
                clear hcs hfn hH h
                generalize cs.toList = l at hcaps
                induction hcaps with
                | nil => exact .nil
                | cons h1 _ ih => exact .cons h1 ih
              have hC := hN fid H hH0 cx hP hio ⟨st.tmps, st.regs, n, st.gh⟩ a w φ _ _ _ R0 hF (hargs.append hcaps') hH
              have hrun : (execOp a.eval o).run cx.P w = .ok (.enter fid (args.map a.eval ++ cs)) w := by
                unfold callable at hcall
                rw [← hP] at hcall
                cases hfs : cx.P.funcs[fid]? with
                | none => simp [hfs] at hcall
                | some fn =>
                  simp only [hfs, Bool.and_eq_true, Bool.not_eq_true'] at hcall
                  obtain ⟨hc1, hc2⟩ := hcall
                  have hbn : ¬ fn.body = none := by
                    intro hb; rw [hb] at hc2; cases hc2
                  have hc1' : ¬ fn.name = "runtime.NumGoroutine" := by simpa using hc1
                  simp [execOp, ho, resolve, hcs, Deferred.ofValue, invoke, callFunc, hfs, hc1', hbn]
              unfold wpOp
              simp only [hk]
              rw [if_pos (show Region.wanted o (yielded ops a.tmps) = true by simp [Region.wanted, hg])]
              left
              unfold Oper.wp
              rw [hrun, Oper.upon_enter]
              have harr : (args.map a.eval ++ cs) = (args.toList.map a.eval ++ cs.toList).toArray := by
                apply Array.ext'
                simp
              rw [harr]
              refine hC.mono ?_
              rintro e' w' ⟨V, av, st2, φ', rfl, hK, R2, hav, hF2, hlt⟩
              simp only [forceSt_eq] at hK
              have R3 := (R2.put (dst := o.dst) hav).clean
              have hF3 := (hF2.put0 (dst := o.dst) hlt).clean
              have e1 : (cleanSt (st2.put o.dst av)).next = st2.next := by simp [cleanSt]
              refine runI_sound hE hN hP hio hQ os (k + 1) _ _ φ' _ w' hos' (by simp at hlen; omega) (cleanSt_inv _) R3 ?_ hK
              rw [e1]; exact hF3
            · cases hc
          · cases hc
        · cases hc
      · cases hc
    · split at h
      · rename_i vc av e ho'
        obtain ⟨hvc, h⟩ := andAll_spec h
        simp only [forceSt_eq, stepSt_eq] at h
        obtain ⟨⟨vc0, ho, hv0⟩, hI2⟩ := opGP_spec hI ho'
        have hlt := opG_lt ho
        have hI3 : Inv (({ st with regs := e.app st.regs } : St).put o.dst av).tmps := by
          cases hd : o.dst with
          | none => exact hI
          | some d => exact hI2 d hd
        refine opG_sound hE hP R (fun j _ => hF (n + j) (by omega)) hk ho (hv0 hvc) (fun a' w' φ' R' => ?_)
        exact runI_sound hE hN hP hio hQ os (k + 1) (n + 16) _ φ' a' w' hos' (by simp at hlen; omega) hI3 R' (hF.put hlt.1 hlt.2) h
      · split at h
        · exact h.elim
        · exact nomatch h

theorem awp_sound {E : Env} (hE : EnvOK E) (hN : InlsOK E) {cx : Cx} (hP : cx.P = E.P) (hio : ∀ r l, (r, l) ∈ cx.io → r < E.nio) : ∀ (c : Code) (b : Nat) (K : AExit → St → Prop) (st : St) (a : Act) (w : World) (Q : Exit → Act → World → Prop),
    loopsAll E (loopList c b) → awp E c b K st → RelN cx st a w → (∀ e st' a' w', K e st' → RelN cx st' a' w' → Q e.conv a' w') → c.wp cx.P Q a w := by
  intro c
  induction c with
  | skip => intro b K st a w Q hl h R hQ; exact wp_skip (hQ .normal st a w h R)
  | label l => intro b K st a w Q hl h R hQ; exact wp_label (hQ .normal st a w h R)
  | exit id => intro b K st a w Q hl h R hQ; exact wp_exit (hQ (.exit id) st a w h R)
  | ret => intro b K st a w Q hl h R hQ; exact wp_ret (hQ .ret st a w h R)
  | region id ops draw =>
    intro b K st a w Q hl h R hQ
    simp only [awp, forceSt_eq] at h
    unfold regI at h
    split at h
    · obtain ⟨⟨φ, R0⟩, hF⟩ := R
      refine wp_region ?_
      have := runI_sound (E := env0 E (cleanSt st).next false) (Q := Q) (env0_ok hE _ _) hN hP hio (fun st' a' w' hK R' => hQ .normal st' a' w' hK R') ops.toList 0 (cleanSt st).next (cleanSt st) φ a w (fun i => by simp) (by simp) (cleanSt_inv st) R0.clean hF.clean h
      simpa [List.range_eq_range'] using this
    · exact regP_sound hE hP (cleanSt_inv st) ⟨⟨R.1.choose, R.1.choose_spec.clean⟩, R.2.clean⟩ (fun st' a' w' hK R' => hQ .normal st' a' w' hK R') 6 [] [] h
  | seq x y ihx ihy =>
    intro b K st a w Q hl h R hQ
    obtain ⟨hlx, hly⟩ := loopsAll_append hl
    refine wp_seq (ihx b _ st a w _ hlx h R (fun e st' a' w' hK R' => ?_))
    cases e with
    | normal => exact ihy b K st' a' w' Q hly hK R' hQ
    | exit id => exact hQ (.exit id) st' a' w' hK R'
    | ret => exact hQ .ret st' a' w' hK R'
  | cond c x y ihx ihy =>
    intro b K st a w Q hl h R hQ
    simp only [awp] at h
    split at h
    · rename_i vc v hr
      obtain ⟨hvc, hK⟩ := andAll_spec h
      obtain ⟨hlx, hly⟩ := loopsAll_append hl
      obtain ⟨⟨φ, R0⟩, hF⟩ := id R
      have hC := VRel.bool_eq (rawV_sound R0 hr hvc)
      refine wp_cond hC ?_
      cases hv : v with
      | true => rw [if_pos rfl]; exact ihx b K st a w Q hlx (hK.t hv) R hQ
      | false => rw [if_neg (by simp)]; exact ihy b K st a w Q hly (hK.f hv) R hQ
    · rename_i vc e neg hr
      obtain ⟨hvc, hK⟩ := andAll_spec h
      obtain ⟨hlx, hly⟩ := loopsAll_append hl
      obtain ⟨⟨φ, R0⟩, hF⟩ := id R
      obtain ⟨v, hC, hv⟩ := rawV_sound R0 hr hvc
      refine wp_cond hC ?_
      cases v with
      | true => rw [if_pos rfl]; exact ihx b K st a w Q hlx (hK.t hv) R hQ
      | false => rw [if_neg (by simp)]; exact ihy b K st a w Q hly (hK.f hv) R hQ
    · exact nomatch h
  | block id c ih =>
    intro b K st a w Q hl h R hQ
    have haft : ∀ st' a' w', aft E id K st' → RelN cx st' a' w' → Q .normal a' w' := by
      intro st' a' w' hK R'
      unfold aft at hK
      split at hK
      · split at hK
        · rename_i ts _ st2 hn
          exact hQ .normal st2 a' w' hK (R'.norm hio hn)
        · exact nomatch hK
      · exact hQ .normal st' a' w' hK R'
    refine wp_block (ih id _ st a w _ hl h R (fun e st' a' w' hK R' => ?_))
    cases e with
    | normal => exact haft st' a' w' hK R'
    | exit id' =>
      simp only [AExit.conv, Exit.inBlock]
      simp only at hK
      split
      · rename_i e; rw [if_pos e] at hK; exact haft st' a' w' hK R'
      · rename_i e; rw [if_neg e] at hK; exact hQ (.exit id') st' a' w' hK R'
    | ret => exact hQ .ret st' a' w' hK R'
  | loop c ih =>
    intro b K st a w Q hl h R hQ
    simp only [awp, loopP] at h
    split at h
    · rename_i st0 hn
      split at h
      · rename_i L hL
        obtain ⟨x0, y0, he0, hp0, ho0⟩ := Loop.enter_spec h
        obtain ⟨hl1, hl2⟩ := hl
        rw [hL] at hl1
        refine wp_loop_n (fun n a w => ∃ x y, L.m x y = n ∧ L.pre x y ∧ L.out x y K ∧ RelN cx (L.abs x y) a w) ⟨x0, y0, rfl, hp0, ho0, he0 ▸ (R.nrmAt hio hn).wk L⟩ (fun n a w hI => ?_)
        obtain ⟨x, y, hm, hp, ho, R1⟩ := hI
        refine ih b _ (L.abs x y) a w _ hl2 (hl1 x y K hp ho) R1 (fun e st' a' w' hK R' => ?_)
        cases e with
        | normal =>
          simp only [roundP] at hK
          split at hK
          · rename_i st2 hn2
            obtain ⟨x2, y2, he2, hp2, hm2, ho2⟩ := Loop.again_spec hK
            exact ⟨L.m x2 y2, hm ▸ hm2, x2, y2, rfl, hp2, ho2, he2 ▸ (R'.nrmAt hio hn2).wk L⟩
          · exact nomatch hK
        | exit id =>
          simp only [roundP] at hK
          split at hK
          · rename_i st2 hn2; exact hQ (.exit id) st2 a' w' hK (R'.norm hio hn2)
          · exact nomatch hK
        | ret =>
          simp only [roundP] at hK
          split at hK
          · rename_i st2 hn2; exact hQ .ret st2 a' w' hK (R'.norm hio hn2)
          · exact nomatch hK
      · exact nomatch h
    · exact nomatch h
  | rangeFunc => intro b K st a w Q hl h R hQ; exact nomatch h
  | scope => intro b K st a w Q hl h R hQ; exact nomatch h
  | goto => intro b K st a w Q hl h R hQ; exact nomatch h
  | refuse => intro b K st a w Q hl h R hQ; exact nomatch h

end Go.Lift
