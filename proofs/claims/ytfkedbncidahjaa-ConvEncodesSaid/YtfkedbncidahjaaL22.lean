/- A function's contract out of its abstract run: soundness. -/
import Derived.Test.YtfkedbncidahjaaL21
set_option linter.unusedVariables false
set_option linter.unusedSimpArgs false
namespace Go.Lift
open Go

def ioList : List PK → List Loc → Nat → List (Nat × Loc)
  | p :: ps, l :: ls, n => if p.io then (n, l) :: ioList ps ls (n + 1) else ioList ps ls n
  | _, _, _ => []
theorem ioList_locs : ∀ (ps : List PK) (ls : List Loc) (n : Nat), (ioList ps ls n).map (·.2) = ioLocs ps ls
  | [], _, _ => by simp [ioList, ioLocs]
  | _ :: _, [], _ => by simp [ioList, ioLocs]
  | p :: ps, l :: ls, n => by
    simp only [ioList, ioLocs]
    split
    · simp [ioList_locs ps ls]
    · exact ioList_locs ps ls n
theorem ioList_get : ∀ (ps : List PK) (ls : List Loc) (n r : Nat) (l : Loc), (r, l) ∈ ioList ps ls n → n ≤ r ∧ r < n + ioCount ps ∧ (ioLocs ps ls)[r - n]? = some l
  | [], _, _, _, _, h => by simp [ioList] at h
  | _ :: _, [], _, _, _, h => by simp [ioList] at h
  | p :: ps, l0 :: ls, n, r, l, h => by
    simp only [ioList, ioLocs, ioCount] at h ⊢
    split at h
    · rename_i hp
      rw [if_pos hp, List.filter_cons_of_pos hp]
      rcases List.mem_cons.1 h with h | h
      · cases h; simp
      · obtain ⟨h1, h2, h3⟩ := ioList_get ps ls (n + 1) r l h
        have : r - n = (r - (n + 1)) + 1 := by omega
        rw [this]
        refine ⟨by omega, ?_, by simpa using h3⟩
        simp only [ioCount] at h2
        simp only [List.length_cons]; omega
    · rename_i hp
      rw [if_neg hp, List.filter_cons_of_neg hp]
      exact ioList_get ps ls n r l h

theorem initR_look : ∀ (ps : List PK) (x : dens ps) (n r : Nat) (g : Reg), look (initR ps x n) r = some g → n ≤ r ∧ r < n + ioCount ps
  | [], _, _, _, _, h => by simp [initR, look] at h
  | .v t :: ps, x, n, r, g, h => by
    have := initR_look ps x.2 n r g h
    simpa [ioCount, PK.io] using this
  | .box t :: ps, x, n, r, g, h => by
    simp only [initR, look] at h
    have e : ioCount (.box t :: ps) = ioCount ps + 1 := by unfold ioCount; rw [List.filter_cons_of_pos rfl]; rfl
    split at h
    · omega
    · have := initR_look ps x.2 (n + 1) r g h; omega
  | .row t :: ps, x, n, r, g, h => by
    simp only [initR, look] at h
    have e : ioCount (.row t :: ps) = ioCount ps + 1 := by unfold ioCount; rw [List.filter_cons_of_pos rfl]; rfl
    split at h
    · omega
    · have := initR_look ps x.2 (n + 1) r g h; omega

theorem init_rel {ok okO okk : Nat → Prop} {w : World} {φ : Phi} (h1 : ∀ b o, ok b → w.heap[b]? = some o → okk b ∧ w.heap[b]? = some o) (h2 : ∀ b o, okO b → w.heap[b]? = some o → okk b ∧ w.heap[b]? = some o) :
    ∀ (ps : List PK) (x : dens ps) (args : List Value) (ls : List Loc) (n : Nat) (rs : Regs), PsRel ok okO w ps x args ls → (∀ k l, (ioLocs ps ls)[k]? = some l → φ (n + k) = l) → (∀ r, n ≤ r → look rs r = look (initR ps x n) r) →
      (initT ps x n).length = args.length ∧ (∀ i av, (initT ps x n)[i]? = some av → AVRel rs φ okk w av (args.getD i undef)) ∧
      (∀ r g, look (initR ps x n) r = some g → g.at okk w (φ r) ∧ ∃ l, (r, l) ∈ ioList ps ls n ∧ φ r = l) ∧ (∀ (i : Nat) (av : AV), (initT ps x n)[i]? = some av → av.ltB (n + ioCount ps) = true)
  | [], x, args, ls, n, rs, h, _, _ => by
    obtain ⟨rfl, rfl⟩ := h
    simp [initT, initR, look]
  | p :: ps, x, args, ls, n, rs, h, hφ, hrs => by
    obtain ⟨v, vs, l, ls', rfl, rfl, hp, ht⟩ := h
    cases p with
    | v t =>
      have hφ' : ∀ k l', (ioLocs ps ls')[k]? = some l' → φ (n + k) = l' := fun k l' hk => hφ k l' (by simpa [ioLocs, PK.io] using hk)
      obtain ⟨i1, i2, i3, i4⟩ := init_rel h1 h2 ps x.2 vs ls' n rs ht hφ' hrs
      have e : ioCount (.v t :: ps) = ioCount ps := by unfold ioCount; rw [List.filter_cons_of_neg (by simp [PK.io])]
      refine ⟨by simp [initT, i1], ?_, ?_, ?_⟩
      · intro i av hi
        cases i with
        | zero => simp only [initT, List.getElem?_cons_zero, Option.some.injEq] at hi; subst hi; exact VRel.mono h1 hp
        | succ i => simp only [initT, List.getElem?_cons_succ] at hi; simpa using i2 i av hi
      · intro r g hg
        obtain ⟨j1, l', j2, j3⟩ := i3 r g hg
        exact ⟨j1, l', by simpa [ioList, PK.io] using j2, j3⟩
      · intro i av hi
        rw [e]
        cases i with
        | zero => simp only [initT, List.getElem?_cons_zero, Option.some.injEq] at hi; subst hi; rfl
        | succ i => simp only [initT, List.getElem?_cons_succ] at hi; exact i4 i av hi
    | box t =>
      have hφ0 : φ n = l := by have := hφ 0 l (by simp [ioLocs, PK.io]); simpa using this
      have hφ' : ∀ k l', (ioLocs ps ls')[k]? = some l' → φ (n + 1 + k) = l' := fun k l' hk => by
        have := hφ (k + 1) l' (by simpa [ioLocs, PK.io] using hk)
        rw [show n + 1 + k = n + (k + 1) from by omega]; exact this
      have hrs' : ∀ r, n + 1 ≤ r → look rs r = look (initR ps x.2 (n + 1)) r := fun r hr => by
        rw [hrs r (by omega)]
        simp only [initR, look]
        rw [if_neg (by omega)]
      obtain ⟨i1, i2, i3, i4⟩ := init_rel h1 h2 ps x.2 vs ls' (n + 1) rs ht hφ' hrs'
      have e : ioCount (.box t :: ps) = ioCount ps + 1 := by unfold ioCount; rw [List.filter_cons_of_pos rfl]; rfl
      obtain ⟨q1, b, q2, q3⟩ := hp
      refine ⟨by simp [initT, i1], ?_, ?_, ?_⟩
      · intro i av hi
        cases i with
        | zero =>
          simp only [initT, List.getElem?_cons_zero, Option.some.injEq] at hi
          subst hi
          intro g hg
          rw [hrs n (Nat.le_refl n)] at hg
          simp only [initR, look, if_true, Option.some.injEq] at hg
          subst hg
          exact ⟨b, by rw [hφ0]; exact q2, by simp [pok], by simpa [poff] using q3⟩
        | succ i => simp only [initT, List.getElem?_cons_succ] at hi; simpa using i2 i av hi
      · intro r g hg
        simp only [initR, look] at hg
        split at hg
        · rename_i e2
          subst e2; cases hg
          exact ⟨by rw [hφ0]; exact Reg.at_mono h2 (fun _ _ => rfl) q1, l, by simp [ioList, PK.io], hφ0⟩
        · obtain ⟨j1, l', j2, j3⟩ := i3 r g hg
          exact ⟨j1, l', by simp [ioList, PK.io, j2], j3⟩
      · intro i av hi
        rw [e]
        cases i with
        | zero => simp only [initT, List.getElem?_cons_zero, Option.some.injEq] at hi; subst hi; simp [AV.ltB, SV.ltB]
        | succ i =>
          simp only [initT, List.getElem?_cons_succ] at hi
          have := i4 i av hi
          rwa [show n + (ioCount ps + 1) = n + 1 + ioCount ps from by omega]
    | row t =>
      have hφ0 : φ n = l := by have := hφ 0 l (by simp [ioLocs, PK.io]); simpa using this
      have hφ' : ∀ k l', (ioLocs ps ls')[k]? = some l' → φ (n + 1 + k) = l' := fun k l' hk => by
        have := hφ (k + 1) l' (by simpa [ioLocs, PK.io] using hk)
        rw [show n + 1 + k = n + (k + 1) from by omega]; exact this
      have hrs' : ∀ r, n + 1 ≤ r → look rs r = look (initR ps x.2 (n + 1)) r := fun r hr => by
        rw [hrs r (by omega)]
        simp only [initR, look]
        rw [if_neg (by omega)]
      obtain ⟨i1, i2, i3, i4⟩ := init_rel h1 h2 ps x.2 vs ls' (n + 1) rs ht hφ' hrs'
      have e : ioCount (.row t :: ps) = ioCount ps + 1 := by unfold ioCount; rw [List.filter_cons_of_pos rfl]; rfl
      obtain ⟨q1, q3⟩ := hp
      refine ⟨by simp [initT, i1], ?_, ?_, ?_⟩
      · intro i av hi
        cases i with
        | zero =>
          simp only [initT, List.getElem?_cons_zero, Option.some.injEq] at hi
          subst hi
          intro t' xs' hg
          rw [hrs n (Nat.le_refl n)] at hg
          simp only [initR, look, if_true, Option.some.injEq] at hg
          cases hg
          rw [hφ0]
          exact q3
        | succ i => simp only [initT, List.getElem?_cons_succ] at hi; simpa using i2 i av hi
      · intro r g hg
        simp only [initR, look] at hg
        split at hg
        · rename_i e2
          subst e2; cases hg
          exact ⟨by rw [hφ0]; exact Reg.at_mono h2 (fun _ _ => rfl) q1, l, by simp [ioList, PK.io], hφ0⟩
        · obtain ⟨j1, l', j2, j3⟩ := i3 r g hg
          exact ⟨j1, l', by simp [ioList, PK.io, j2], j3⟩
      · intro i av hi
        rw [e]
        cases i with
        | zero => simp only [initT, List.getElem?_cons_zero, Option.some.injEq] at hi; subst hi; simp [AV.ltB, SV.ltB]
        | succ i =>
          simp only [initT, List.getElem?_cons_succ] at hi
          have := i4 i av hi
          rwa [show n + (ioCount ps + 1) = n + 1 + ioCount ps from by omega]

def resF (tmps : Array Value) : ResultVar → Sem Value
  | .tmp t => pure (tmps.getD t undef)
  | .cell a t => do loadVar t (← asAddr (tmps.getD a undef))
theorem results_eq (fn : Func) (tmps : Array Value) : results fn tmps = (do
    let vs ← fn.results.mapM (resF tmps)
    pure (if h : vs.size = 1 then vs[0] else .tuple vs)) := rfl
/-- What the machine reads as the results. -/
def ResVals (P : Program) (w : World) (tmps : Array Value) : List ResAt → List Value → Prop
  | [], vs => vs = []
  | (t, none) :: ts, vs => ∃ vs', vs = tmps.getD t undef :: vs' ∧ ResVals P w tmps ts vs'
  | (t, some ty) :: ts, vs => ∃ v vs', vs = v :: vs' ∧ (do loadVar ty (← asAddr (tmps.getD t undef)) : Sem Value).run P w = .ok v w ∧ ResVals P w tmps ts vs'
theorem run_results {P : Program} {fn : Func} {tmps : Array Value} {w : World} {vs : List Value} (h : ResVals P w tmps (resTmps fn) vs) : (results fn tmps).run P w = .ok (retVal vs) w := by
  have key : ∀ (l : List ResultVar) (vs : List Value), ResVals P w tmps (l.map resT) vs → (l.mapM (resF tmps)).run P w = .ok vs w := by
    intro l
    induction l with
    | nil => intro vs h; have h : vs = [] := h; subst h; simp
    | cons r l ih =>
      intro vs h
      cases r with
      | cell a t =>
        obtain ⟨v, vs', rfl, h1, h2⟩ := h
        rw [List.mapM_cons]
        have h1' : (resF tmps (.cell a t)).run P w = .ok v w := h1
        simp only [Sem.run_bind, h1', Sem.run_pure, Result.andThen_ok, ih vs' h2]
      | tmp t =>
        obtain ⟨vs', rfl, h2⟩ := h
        rw [List.mapM_cons]
        simp only [Sem.run_bind, resF, Sem.run_pure, Result.andThen_ok, ih vs' h2]
  have hk := key _ vs h
  rw [results_eq]
  simp only [Array.mapM_eq_mapM_toList, Sem.run_bind, Sem.run_map, hk, Result.andThen_ok, Sem.run_pure]
  congr 1
  cases vs with
  | nil => rfl
  | cons t ts => cases ts with
    | nil => rfl
    | cons t2 ts => simp [retVal]
theorem asAddr_of_sure {P : Program} {w : World} {t : TypeId} {X V : Value} (h : (Instr.loadAt t X).run P w = .ok V w) : (do loadVar t (← asAddr X) : Sem Value).run P w = .ok V w := by
  cases X with
  | pointer a =>
    cases a with
    | some a => simpa [Instr.loadAt, Instr.sureAddr, asAddr] using h
    | none => simp [Instr.loadAt, Instr.sureAddr] at h
  | _ => simp [Instr.loadAt, Instr.sureAddr] at h
theorem getS_sound {cx : Cx} {φ : Phi} {st : St} {a : Act} {w : World} (R : RelF cx φ st a w) : ∀ (ts : List ResAt) (vs : List SV), getS cx.P st.regs st.tmps ts = some vs →
    ∃ Vs, ResVals cx.P w a.tmps ts Vs ∧ All2 (SVRel st.regs φ (okOf st.regs φ) w) vs Vs
  | [], vs, h => by simp only [getS, Option.some.injEq] at h; subst h; exact ⟨[], rfl, .nil⟩
  | (t, none) :: ts, vs, h => by
    simp only [getS] at h
    split at h
    · rename_i v vs' h1 h2
      cases h
      obtain ⟨Vs, k1, k2⟩ := getS_sound R ts vs' h2
      exact ⟨_, ⟨Vs, rfl, k1⟩, .cons (weakS_sound (R.tm t _ h1)) k2⟩
    · cases h
  | (t, some ty) :: ts, vs, h => by
    simp only [getS] at h
    split at h
    · rename_i x vs' h1 h2
      split at h
      · rename_i v hl
        cases h
        obtain ⟨Vs, k1, k2⟩ := getS_sound R ts vs' h2
        obtain ⟨V, l1, l2⟩ := loadV_sound R hl (R.tm t _ h1)
        exact ⟨_, ⟨V, Vs, rfl, asAddr_of_sure l1, k1⟩, .cons l2 k2⟩
      · cases h
    · cases h

end Go.Lift
