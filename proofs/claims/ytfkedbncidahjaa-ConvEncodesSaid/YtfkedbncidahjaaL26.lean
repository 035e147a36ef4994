/- A region whose order is drawn: soundness. -/
import Derived.Test.YtfkedbncidahjaaL25
set_option linter.unusedVariables false
set_option linter.unusedSimpArgs false
namespace Go.Lift
open Go

def preOf (acc : List Rec) (o : Oper) : List Bool := o.after.toList.foldl (fun s e => if Region.binds .any e then orL (orL s (oneL e.on)) (match acc[e.on]? with
  | some r => r.pre
  | none => []) else s) []
def backB (k : Nat) (o : Oper) : Bool := o.after.toList.all fun e => !Region.binds .any e || decide (e.on < k)

def recsV (E : Env) (ops : Array Oper) : List Oper → List Rec → Nat → St → Option (List Prop × List Rec × St)
  | [], acc, _, st => some ([], acc, st)
  | o :: os, acc, n, st =>
    if backB acc.length o = true then
      match recVP E ops (preOf acc o) n o st with
      | some (vc, r) => forceRec r fun r => forceSt (stepSt st r.dst r.av r.e) fun st => match recsV E ops os (acc ++ [r]) (n + 8) st with
        | some (vc', rs, st') => some (vc ++ vc', rs, st')
        | none => none
      | none => none
    else none
def runDraw (E : Env) (ops : Array Oper) (st : St) : Option (List Prop × St) :=
  match recsV E ops ops.toList [] st.next st with
  | some (vc, rs, st') => if pairs 0 rs = true ∧ ops.size ≤ 64 then some (vc, bumpSt st st' 512) else none
  | none => none

theorem preOf_spec {acc : List Rec} {o : Oper} {j : Nat} (h : (preOf acc o).getD j false = true) :
    ∃ e ∈ o.after.toList, Region.binds .any e = true ∧ (j = e.on ∨ ∃ r, acc[e.on]? = some r ∧ r.pre.getD j false = true) := by
  have key : ∀ (l : List Edge) (s : List Bool), (l.foldl (fun s e => if Region.binds .any e then orL (orL s (oneL e.on)) (match acc[e.on]? with
      | some r => r.pre
      | none => []) else s) s).getD j false = true → s.getD j false = true ∨ ∃ e ∈ l, Region.binds .any e = true ∧ (j = e.on ∨ ∃ r, acc[e.on]? = some r ∧ r.pre.getD j false = true) := by
    intro l
    induction l with
    | nil => intro s h; exact .inl h
    | cons e l ih =>
      intro s h
      simp only [List.foldl_cons] at h
      rcases ih _ h with h1 | ⟨e', h1, h2⟩
      · split at h1
        · rename_i hb
          rw [orL_get, orL_get] at h1
          simp only [Bool.or_eq_true] at h1
          rcases h1 with (h1 | h1) | h1
          · exact .inl h1
          · exact .inr ⟨e, List.mem_cons_self .., hb, .inl (oneL_get _ _ h1)⟩
          · refine .inr ⟨e, List.mem_cons_self .., hb, .inr ?_⟩
            split at h1
            · rename_i r hr; exact ⟨r, hr, h1⟩
            · simp at h1
        · exact .inl h1
      · exact .inr ⟨e', List.mem_cons_of_mem _ h1, h2⟩
  rcases key _ [] h with h1 | h1
  · simp at h1
  · exact h1

/-- What is known of the i-th. -/
def Good (E : Env) (ops : Array Oper) (n0 : Nat) (st0 : St) (recs : List Rec) (i : Nat) (r : Rec) : Prop :=
  ∃ o vc, ops[i]? = some o ∧ recV E ops (preOf (recs.take i) o) (n0 + 8 * i) o (foldAll (recs.take i) st0) = some (vc, r) ∧ (∀ p ∈ vc, p) ∧ backB i o = true

theorem recsV_spec {E : Env} {ops : Array Oper} {n0 : Nat} {st0 : St} : ∀ (os : List Oper) (acc : List Rec) (vc : List Prop) (recs : List Rec) (st' : St),
    (∀ i r, acc[i]? = some r → Good E ops n0 st0 acc i r) → Inv (foldAll acc st0).tmps → (∀ i, os[i]? = ops[acc.length + i]?) → recsV E ops os acc (n0 + 8 * acc.length) (foldAll acc st0) = some (vc, recs, st') → (∀ p ∈ vc, p) →
    recs.length = acc.length + os.length ∧ st' = foldAll recs st0 ∧ ∀ i r, recs[i]? = some r → Good E ops n0 st0 recs i r
  | [], acc, vc, recs, st', hacc, _, _, h, _ => by
    simp only [recsV, Option.some.injEq, Prod.mk.injEq] at h
    obtain ⟨_, rfl, rfl⟩ := h
    exact ⟨by simp, rfl, hacc⟩
  | o :: os, acc, vc, recs, st', hacc, hI, hos, h, hvc => by
    simp only [recsV, forceRec_eq, forceSt_eq, stepSt_eq] at h
    split at h
    · rename_i hb
      split at h
      · rename_i vc1' r hr'
        obtain ⟨⟨vc1, hr, hv1⟩, hI2⟩ := recVP_spec hI hr'
        split at h
        · rename_i vc2 rs st2 hrest
          cases h
          have e1 : foldAll (acc ++ [r]) st0 = (foldAll acc st0).app r := by simp [foldAll]
          have e2 : n0 + 8 * (acc ++ [r]).length = n0 + 8 * acc.length + 8 := by simp; omega
          have := recsV_spec os (acc ++ [r]) vc2 recs st' (fun i r' hi => ?_) (by rw [e1]; exact hI2) (fun i => ?_) (by rw [e1, e2]; exact hrest) (fun p hp => hvc p (by simp [hp]))
          · obtain ⟨j1, j2, j3⟩ := this
            exact ⟨by rw [j1]; simp; omega, j2, j3⟩
          · rcases Nat.lt_or_ge i acc.length with hlt | hge
            · rw [List.getElem?_append_left hlt] at hi
              obtain ⟨o', vc', k1, k2, k3, k4⟩ := hacc i r' hi
              refine ⟨o', vc', k1, ?_, k3, k4⟩
              rw [List.take_append_of_le_length (by omega)]
              exact k2
            · have hi' : i = acc.length := by
                rcases Nat.lt_or_ge acc.length i with h9 | h9
                · rw [List.getElem?_eq_none (by simp; omega)] at hi; cases hi
                · omega
              subst hi'
              rw [List.getElem?_append_right (Nat.le_refl _)] at hi
              simp only [Nat.sub_self, List.getElem?_cons_zero, Option.some.injEq] at hi
              subst hi
              refine ⟨o, vc1, by have := hos 0; simpa using this.symm, ?_, hv1 fun p hp => hvc p (by simp [hp]), hb⟩
              rw [List.take_append_of_le_length (Nat.le_refl _), List.take_length]
              exact hr
          · have := hos (i + 1)
            simp only [List.getElem?_cons_succ] at this
            rw [this]; simp only [List.length_append, List.length_cons, List.length_nil]; congr 1; omega
        · cases h
      · cases h
    · cases h

theorem recV_spec {E : Env} {ops : Array Oper} {pre : List Bool} {n : Nat} {o : Oper} {st : St} {vc : List Prop} {r : Rec} (h : recV E ops pre n o st = some (vc, r)) :
    r.rd = readsT ops o ∧ r.ids = allIdsAt r.rd st.tmps ∧ r.dst = o.dst ∧ r.n = n ∧ r.pre = pre ∧ opG E ops st.tmps (restr r.ids st.regs) n o = some (vc, r.av, r.e) ∧
    (∀ s ∈ touch r.e, (s ∈ r.ids ∧ (look st.regs s).isSome = true) ∨ (n ≤ s ∧ s < n + 8)) ∧ (∀ s ∈ r.av.allIds, s ∈ r.ids ∨ (n ≤ s ∧ s < n + 8)) ∧
    (r.soft = true → isSoft E.P o = true ∧ ∀ s ∈ r.ids, (shpAt st.regs s).isSome = true ∧ lk r.shp s = shpAt st.regs s) ∧ (∀ s g, (s, g) ∈ r.keep → s ∈ touch r.e ∧ shpAt st.regs s = some g ∧ shpAt (r.e.app st.regs) s = some g) := by
  unfold recV recOf at h
  simp only at h
  split at h
  · rename_i vc' av e hg
    split at h
    · rename_i hc
      cases h
      simp only [Bool.and_eq_true, List.all_eq_true, Bool.or_eq_true, List.contains_eq_mem, decide_eq_true_eq, inR] at hc
      refine ⟨rfl, rfl, rfl, rfl, rfl, hg, hc.1, hc.2, ?_, ?_⟩
      · intro h
        simp only [Bool.and_eq_true, List.all_eq_true] at h
        exact ⟨h.1, fun s hs => ⟨h.2 s hs, lk_shpsOf _ hs⟩⟩
      · intro s g h
        exact keepsOf_spec _ _ h
    · cases h
  · cases h

theorem count_set : ∀ {l : List Bool} {i : Nat}, l[i]? = some false → (l.set i true).count false + 1 = l.count false
  | [], i, h => by simp at h
  | b :: l, 0, h => by simp only [List.getElem?_cons_zero, Option.some.injEq] at h; subst h; simp
  | b :: l, i + 1, h => by
    simp only [List.getElem?_cons_succ] at h
    have := count_set (l := l) h
    simp only [List.set_cons_succ, List.count_cons]
    omega
theorem foldL_true : ∀ {rs : List Rec} {bs : List Bool} {s : St}, bs.length = rs.length → (∀ b ∈ bs, b = true) → foldL rs bs s = foldAll rs s
  | [], bs, s, h, _ => by cases bs <;> simp [foldL, foldAll]
  | r :: rs, [], s, h, _ => by simp at h
  | r :: rs, b :: bs, s, h, hb => by
    have : b = true := hb b (List.mem_cons_self ..)
    subst this
    simp only [foldL, foldAll, List.foldl_cons]
    exact foldL_true (by simpa using h) fun b hb' => hb b (List.mem_cons_of_mem _ hb')
theorem foldL_false : ∀ {rs : List Rec} {bs : List Bool} {s : St}, (∀ b ∈ bs, b = false) → foldL rs bs s = s
  | [], _, _, _ => by simp [foldL]
  | r :: rs, [], _, _ => by simp [foldL]
  | r :: rs, b :: bs, s, hb => by
    have : b = false := hb b (List.mem_cons_self ..)
    subst this
    simp only [foldL]
    exact foldL_false fun b hb' => hb b (List.mem_cons_of_mem _ hb')
theorem foldAll_next : ∀ (rs : List Rec) (s : St), (foldAll rs s).next = s.next
  | [], _ => rfl
  | r :: rs, s => by
    simp only [foldAll, List.foldl_cons]
    exact (foldAll_next rs (s.app r)).trans (app_next s r)

theorem runDraw_sound {E : Env} (hE : EnvOK E) {cx : Cx} (hP : cx.P = E.P) {ops : Array Oper} {Q : Exit → Act → World → Prop} {φ : Phi} {st st' : St} {a : Act} {w : World} {vc : List Prop}
    (hI : Inv st.tmps) (R : RelF cx φ st a w) (hF : FreshFrom cx st st.next) (h : runDraw E ops st = some (vc, st')) (hvc : ∀ p ∈ vc, p)
    (hQ : ∀ a' w' φ', RelF cx φ' st' a' w' → FreshFrom cx st' st'.next → Q .normal a' w') : wpAny cx.P .any ops Q ops.size (Array.replicate ops.size false) a w := by
  unfold runDraw at h
  split at h
  · rename_i vc' recs st1 hrec
    split at h
    · rename_i hpairs'
      have hpairs := hpairs'.1
      cases h
      obtain ⟨q1, q2, q3⟩ := recsV_spec (ops := ops) (n0 := st.next) (st0 := st) ops.toList [] vc recs st1 (fun i r hi => by simp at hi) (by simpa [foldAll] using hI) (fun i => by simp) (by simpa [foldAll] using hrec) hvc
      have hlen : recs.length = ops.size := by simpa using q1
      -- the facts on two of them
      have hpair : ∀ {i j : Nat} {x y : Rec}, i < j → recs[i]? = some x → recs[j]? = some y → noM x y.n = true ∧ (y.pre.getD i false = true ∨ (quietB x y = true ∧ quietB y x = true ∧ commB x y = true ∧ noM y x.n = true)) := by
        intro i j x y h1 h2 h3
        have := pairs_spec hpairs h1 h2 h3
        simp only [pairB, Bool.and_eq_true, Bool.or_eq_true, Nat.zero_add] at this
        exact ⟨this.1, this.2.imp id fun h => ⟨h.1.1.1, h.1.1.2, h.1.2, h.2⟩⟩
      have hnoM : ∀ {x : Rec} {m n : Nat}, noM x n = true → n ≤ m → m < n + 8 → m ∉ touch x.e ∧ m ∉ x.av.allIds := by
        intro x m n h1 h2 h3
        simp only [noM, Bool.and_eq_true, List.all_eq_true, Bool.not_eq_true', inR, Bool.and_eq_false_iff, decide_eq_false_iff_not] at h1
        refine ⟨fun h => ?_, fun h => ?_⟩
        · rcases h1.1 m h with h4 | h4 <;> omega
        · rcases h1.2 m h with h4 | h4 <;> omega
      have hfresh : ∀ i, i ≤ recs.length → FreshFrom cx (foldAll (recs.take i) st) (st.next + 8 * i) := by
        intro i
        induction i with
        | zero => intro _; simpa [foldAll] using hF
        | succ i ih =>
          intro hi
          have hir : i < recs.length := by omega
          obtain ⟨o, vco, g1, g2, g3, g4⟩ := q3 i recs[i] (List.getElem?_eq_getElem hir)
          obtain ⟨_, _, _, _, _, s6, _⟩ := recV_spec g2
          have hlt : recs[i].av.ltB (st.next + 8 * i + 8) = true ∧ Eff.ltB (st.next + 8 * i + 8) recs[i].e = true := by
            exact opG_lt s6
          have e : foldAll (recs.take (i + 1)) st = (foldAll (recs.take i) st).app recs[i] := by
            unfold foldAll
            rw [List.take_succ_eq_append_getElem hir, List.foldl_append]
            rfl
          rw [e]
          exact (ih (by omega)).put hlt.1 hlt.2
      -- the order's invariant
      have main : ∀ (fuel : Nat) (listed : Array Bool) (a : Act) (w : World), listed.size = ops.size → listed.toList.count false = fuel →
          (∀ (j : Nat) (y : Rec), recs[j]? = some y → listed[j]? = some true → ∀ i, y.pre.getD i false = true → listed[i]? = some true) → (∃ φ, RelF cx φ (foldL recs listed.toList st) a w) → wpAny cx.P .any ops Q fuel listed a w := by
        intro fuel
        -- when none is ready, all are listed
        have hall : ∀ (listed : Array Bool), listed.size = ops.size → Region.ready .any ops listed = [] → ∀ b ∈ listed.toList, b = true := by
          intro listed hsz hr
          have hk : ∀ k, (hk : k < ops.size) → listed[k]? = some true := by
            intro k
            induction k using Nat.strongRecOn with
            | _ k ih =>
              intro hk
              by_cases hb : listed[k]? = some true
              · exact hb
              · exfalso
                have hkl : k < listed.size := by omega
                have hv : listed[k]? = some false := by
                  rw [Array.getElem?_eq_getElem hkl] at hb ⊢
                  cases hv : listed[k] with
                  | true => exact (hb (by rw [hv])).elim
                  | false => rfl
                have hrk : k < recs.length := by omega
                obtain ⟨o, vco, g1, g2, g3, g4⟩ := q3 k recs[k] (List.getElem?_eq_getElem hrk)
                have : k ∈ Region.ready .any ops listed := by
                  unfold Region.ready
                  rw [List.mem_filter]
                  refine ⟨List.mem_range.2 hk, ?_⟩
                  have e1 : listed.getD k true = false := by
                    rw [Array.getD_eq_getD_getElem?, hv]; rfl
                  rw [e1, g1]
                  simp only [Bool.not_false, Option.map_some, Option.getD_some, Bool.true_and]
                  rw [Array.all_eq_true_iff_forall_mem]
                  intro e he
                  simp only [backB, List.all_eq_true, Bool.or_eq_true, Bool.not_eq_true', decide_eq_true_eq] at g4
                  rcases g4 e (by simpa using he) with h1 | h1
                  · rw [h1]; rfl
                  · have := ih e.on h1 (by omega)
                    rw [Array.getD_eq_getD_getElem?, this]
                    simp
                rw [hr] at this
                cases this
          intro b hb
          obtain ⟨i, hi⟩ := List.mem_iff_getElem?.1 hb
          have hi' : i < listed.toList.length := (List.getElem?_eq_some_iff.1 hi).1
          have := hk i (by simp at hi'; omega)
          rw [← Array.getElem?_toList, hi] at this
          cases this
          rfl
        have hdone : ∀ (listed : Array Bool) (a : Act) (w : World), listed.size = ops.size → (∀ b ∈ listed.toList, b = true) → (∃ φ, RelF cx φ (foldL recs listed.toList st) a w) → Q .normal a w := by
          intro listed a w hsz hb hR
          obtain ⟨φ, R⟩ := hR
          rw [foldL_true (by simp [hsz, hlen]) hb, ← q2] at R
          refine hQ a w φ ⟨R.size, R.df, R.tm, R.rg, R.sep, R.fr, R.io, R.kp, R.hB, R.bs⟩ ?_
          intro m hm
          have hm' : st.next + 8 * ops.size ≤ m := by have h9 : st.next + 512 ≤ m := hm; have := hpairs'.2; omega
          have := hfresh recs.length (Nat.le_refl _) m (by rw [hlen]; exact hm')
          rw [List.take_length, ← q2] at this
          exact this
        induction fuel with
        | zero =>
          intro listed a w hsz hcnt hcl hR
          have hb : ∀ b ∈ listed.toList, b = true := by
            intro b hb
            cases b with
            | true => rfl
            | false => exact (List.count_eq_zero.1 hcnt hb).elim
          refine ⟨?_, hdone listed a w hsz hb hR⟩
          unfold Region.ready
          rw [List.filter_eq_nil_iff]
          intro k hk
          have hk' : k < listed.size := by rw [hsz]; exact List.mem_range.1 hk
          have : listed[k]? = some true := by
            rw [Array.getElem?_eq_getElem hk']
            rw [hb listed[k] (by simp)]
          rw [Array.getD_eq_getD_getElem?, this]
          simp
        | succ fuel ih =>
          intro listed a w hsz hcnt hcl hR
          refine ⟨fun hr => hdone listed a w hsz (hall listed hsz hr) hR, fun i hi => ?_⟩
          unfold Region.ready at hi
          rw [List.mem_filter] at hi
          obtain ⟨hi1, hi2⟩ := hi
          have hi1 := List.mem_range.1 hi1
          simp only [Bool.and_eq_true, Bool.not_eq_true'] at hi2
          obtain ⟨hi2, hi3⟩ := hi2
          have hil : listed[i]? = some false := by
            have hlt : i < listed.size := by omega
            rw [Array.getD_eq_getD_getElem?, Array.getElem?_eq_getElem hlt] at hi2
            rw [Array.getElem?_eq_getElem hlt]
            exact congrArg some hi2
          have hir : i < recs.length := by omega
          obtain ⟨o, vco, g1, g2, g3, g4⟩ := q3 i recs[i] (List.getElem?_eq_getElem hir)
          obtain ⟨s1, s2, s3, s4, s5, s6, s7, s8, s9, s10⟩ := recV_spec g2
          generalize hr : recs[i] = r at *
          have hri : recs[i]? = some r := by rw [List.getElem?_eq_getElem hir, hr]
          rw [g1] at hi3
          simp only [Option.map_some, Option.getD_some] at hi3
          rw [Array.all_eq_true_iff_forall_mem] at hi3
          -- all before it are listed
          have hpre : ∀ j, r.pre.getD j false = true → listed[j]? = some true := by
            intro j hj
            rw [s5] at hj
            obtain ⟨e, e1, e2, e3⟩ := preOf_spec hj
            have he := hi3 e (by simpa using e1)
            rw [e2] at he
            simp only [Bool.not_true, Bool.false_or] at he
            have hel : listed[e.on]? = some true := by
              rw [Array.getD_eq_getD_getElem?] at he
              cases hl : listed[e.on]? with
              | none => rw [hl] at he; cases he
              | some b => rw [hl] at he; simp only [Option.getD_some] at he; rw [he]
            rcases e3 with e3 | ⟨r', e3, e4⟩
            · rw [e3]; exact hel
            · refine hcl e.on r' ?_ hel j e4
              rw [List.getElem?_take] at e3
              split at e3
              · exact e3
              · cases e3
          obtain ⟨φ, R⟩ := hR
          have hafter : ∀ (j : Nat) (y : Rec), i < j → recs[j]? = some y → listed.toList[j]? = some true → quietB r y = true ∧ quietB y r = true ∧ commB r y = true ∧ noM y r.n = true := by
            intro j y h1 h2 h3
            rcases (hpair h1 hri h2).2 with h4 | h4
            · have := hcl j y h2 (by simpa using h3) i h4
              rw [hil] at this; cases this
            · exact h4
          have hil' : listed.toList[i]? = some false := by simpa using hil
          have hsees := sees_here (y := r) (rs := recs) (bs := listed.toList) (i := i) (Sees.refl r st) hri hil'
            (fun j x h1 h2 => by
              refine ⟨?_, ?_⟩
              · rcases (hpair h1 h2 hri).2 with h4 | h4
                · exact .inl (by simpa using hpre j h4)
                · exact .inr h4.1
              · obtain ⟨o', vc', k1, k2, _, _⟩ := q3 j x h2
                exact fun q g hq => ((recV_spec k2).2.2.2.2.2.2.2.2.2 q g hq).2.1) (fun j x h1 h2 h3 => by
              refine ⟨(hafter j x h1 h2 h3).2.1, fun q g hq hq2 rs => ?_⟩
              obtain ⟨o', vc', k1, k2, _, _⟩ := q3 j x h2
              rw [shpAt_congr (look_app_touch (rs' := (foldAll (recs.take j) st).regs) hq2)]
              exact ((recV_spec k2).2.2.2.2.2.2.2.2.2 q g hq).2.2)
          generalize hS : foldL recs listed.toList st = S at *
          have hop : opG E ops S.tmps (restr r.ids S.regs) (st.next + 8 * i) o = some (vco, r.av, r.e) := by
            rw [← s6, opG_local (tm2 := (foldAll (recs.take i) st).tmps) (fun t ht => hsees.1 t (by rw [s1]; exact ht))]
            by_cases hsoft : r.soft = true
            · obtain ⟨t1, t2⟩ := s9 hsoft
              have hard : ∀ q ∈ r.ids, Shp2 (look (foldAll (recs.take i) st).regs q) (look S.regs q) := fun q hq => by
                have := hsees.2.1 q hq
                rw [if_pos hsoft] at this
                obtain ⟨u1, u2⟩ := t2 q hq
                obtain ⟨g, hg⟩ := Option.isSome_iff_exists.1 u1
                exact shp2_of u1 (by rw [hg]; exact this g (by rw [u2, hg]) hg)
              refine (opG_soft t1 fun q hq => ?_).symm
              rw [← s1, ← s2] at hq
              rw [look_restr, look_restr, if_pos hq, if_pos hq]
              exact hard q hq
            · rw [restr_local (rs2 := (foldAll (recs.take i) st).regs) fun q hq => by
                have := hsees.2.1 q hq
                rw [if_neg hsoft] at this
                exact this]
          have hfr : ∀ k, k < 8 → FreshN cx S (st.next + 8 * i + k) := by
            intro k hk
            rw [← hS]
            refine fresh_foldL (hF _ (by omega)) fun j x h1 h2 => ?_
            rcases Nat.lt_trichotomy j i with h3 | h3 | h3
            · have := (hpair h3 h1 hri).1
              rw [s4] at this
              exact hnoM this (by omega) (by omega)
            · subst h3; rw [hil'] at h2; cases h2
            · have := (hafter j x h3 h1 h2).2.2.2
              rw [s4] at this
              exact hnoM this (by omega) (by omega)
          refine opG_does hE (cx := cxIn cx φ S r.ids w) hP (R.into r.ids) (fun k hk => (hfr k hk).into r.ids) g1 hop g3 (fun V w' φ' R' hav => ?_)
          obtain ⟨φ2, R2, hav2⟩ := R.outof hfr R' (fun s hs => by
            rcases s7 s hs with ⟨h1, h2⟩ | h1
            · refine .inl ⟨h1, ?_⟩
              have h3 := hsees.2.1 s h1
              by_cases hsoft : r.soft = true
              · rw [if_pos hsoft] at h3
                obtain ⟨u1, u2⟩ := (s9 hsoft).2 s h1
                obtain ⟨g, hg⟩ := Option.isSome_iff_exists.1 u1
                have := h3 g (by rw [u2, hg]) hg
                unfold shpAt at this
                split at this
                · rename_i q; rw [q]; rfl
                · rename_i q; rw [q]; rfl
                · cases this
              · rw [if_neg hsoft] at h3
                rw [h3]; exact h2
            · exact .inr h1)
          have R3 := R2.put (dst := o.dst) (hav2 r.av V s8 hav)
          rw [← s3] at R3 ⊢
          refine ih (listed.setIfInBounds i true) _ w' (by simp [hsz]) ?_ ?_ ⟨φ2, ?_⟩
          · have := count_set hil'
            rw [Array.toList_setIfInBounds]
            omega
          · intro j y h1 h2 k hk
            have hkeep : ∀ k : Nat, listed[k]? = some true → (listed.setIfInBounds i true)[k]? = some true := by
              intro k h
              rw [Array.getElem?_setIfInBounds]
              split
              · rename_i e; subst e; rw [hil] at h; cases h
              · exact h
            rw [Array.getElem?_setIfInBounds] at h2
            split at h2
            · rename_i e
              subst e
              rw [hri] at h1
              cases h1
              exact hkeep k (hpre k hk)
            · exact hkeep k (hcl j y h1 h2 k hk)
          · rw [Array.toList_setIfInBounds]
            refine R3.eqv ?_
            rw [← hS]
            exact foldL_set hri hil' fun j y h1 h2 h3 => (hafter j y h1 h2 h3).2.2.1
      refine main ops.size _ a w (by simp) (by simp) ?_ ⟨φ, ?_⟩
      · intro j y h1 h2
        rw [Array.getElem?_replicate] at h2
        split at h2 <;> simp at h2
      · rw [foldL_false (by simp)]
        exact R
    · cases h
  · cases h

end Go.Lift
