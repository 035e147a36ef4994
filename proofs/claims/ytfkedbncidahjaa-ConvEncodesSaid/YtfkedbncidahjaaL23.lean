/- A function's contract out of its abstract run: the whole. -/
import Derived.Test.YtfkedbncidahjaaL22
set_option linter.unusedVariables false
set_option linter.unusedSimpArgs false
namespace Go.Lift
open Go

theorem resEnd_sound {cx : Cx} {φ : Phi} {st : St} {a : Act} {w : World} (R : RelF cx φ st a w) (D : List Nat) (esc : Bool) {tgt : Nat → Prop}
    (ht : esc = true → ∀ b, okOf (dels st.regs D) φ b → tgt b) :
    ∀ (ks : List RK) (y : rdens ks) (vs : List SV) (Vs : List Value) (vc : List Prop) (ids ds : List Nat), resEnd st.regs ks y vs = some (vc, ids, ds) → (∀ p ∈ vc, p) → (∀ r ∈ ds, r ∈ D) →
      (esc = true ∨ ks.all (fun k => k.ty.noRo) = true) → All2 (SVRel st.regs φ (okOf st.regs φ) w) vs Vs →
      ∃ rl, RsRel tgt w ks y Vs rl ∧ blks (freshLocs ks rl) = blks (ids.map φ) ∧ ∀ r ∈ ids, ∃ g, look st.regs r = some g := by
  have hreg : ∀ (g : Reg) (l : Loc), (esc = true ∨ g.noRo = true) → g.at (okOf st.regs φ) w l → g.at tgt w l := by
    intro g l h hg
    rcases h with h | h
    · exact Reg.at_mono (fun b o h1 h2 => ⟨ht h b (okOf_dels D h1), h2⟩) (fun _ _ => rfl) hg
    · exact Reg.at_noRo h hg
  intro ks
  induction ks with
  | nil =>
    intro y vs Vs vc ids ds h hvc hD hn hall
    cases vs with
    | nil =>
      cases hall
      simp only [resEnd, Option.some.injEq, Prod.mk.injEq] at h
      obtain ⟨_, rfl, _⟩ := h
      exact ⟨[], ⟨rfl, rfl⟩, rfl, by simp⟩
    | cons v vs => simp [resEnd] at h
  | cons k ks ih =>
    intro y vs Vs vc ids ds h hvc hD hn hall
    have hnt : esc = true ∨ ks.all (fun k => k.ty.noRo) = true := by
      rcases hn with hn | hn
      · exact .inl hn
      · simp only [List.all_cons, Bool.and_eq_true] at hn; exact .inr hn.2
    have hnh : esc = true ∨ k.ty.noRo = true := by
      rcases hn with hn | hn
      · exact .inl hn
      · simp only [List.all_cons, Bool.and_eq_true] at hn; exact .inr hn.1
    cases vs with
    | nil => cases k <;> simp [resEnd] at h
    | cons v vs =>
      cases hall with
      | @cons _ V _ Vs' hv hall' =>
      cases k with
      | v t =>
        simp only [resEnd] at h
        split at h
        · rename_i z l vc' ids' ds' hz hr
          cases h
          obtain ⟨rl, i1, i2, i3⟩ := ih y.2 vs Vs' vc' _ ds' hr (fun p hp => hvc p (by simp [hp])) (fun r hr => hD r (by simp [hr])) hnt hall'
          have e : z = y.1 := hvc _ (by simp)
          have hV := toVal_sound R hz hv
          refine ⟨⟨none, 0, 0⟩ :: rl, ⟨V, Vs', _, rl, rfl, rfl, ?_, i1⟩, by simpa [freshLocs, RK.fresh] using i2, i3⟩
          show VRel tgt w t y.1 V
          rw [← e]
          rcases hnh with h1 | h1
          · refine VRel.mono (fun b o h2 h3 => ⟨ht h1 b ⟨fun r g hg => ?_, h2.2⟩, h3⟩) hV
            refine h2.1 r g ?_
            rw [look_dels] at hg ⊢
            split at hg
            · cases hg
            · rename_i hnD
              rw [if_neg (fun hl => hnD (hD r (by simp [hl])))]
              exact hg
          · exact VRel.noRo h1 hV
        · cases h
      | vn t =>
        simp only [resEnd] at h
        split at h
        · rename_i z l vc' ids' ds' hz hr
          cases h
          obtain ⟨rl, i1, i2, i3⟩ := ih y.2 vs Vs' vc' _ ds' hr (fun p hp => hvc p (by simp [hp])) (fun r hr => hD r (by simp [hr])) hnt hall'
          have e : z = y.1 := hvc _ (by simp)
          have hV := toVal_sound R hz hv
          refine ⟨⟨none, 0, 0⟩ :: rl, ⟨V, Vs', _, rl, rfl, rfl, ?_, i1⟩, by simpa [freshLocs, RK.fresh] using i2, i3⟩
          have hnn := hvc (nnil v ((z : List t.den) ≠ [])) (by simp)
          refine ⟨?_, fun hy => ?_⟩
          rotate_left
          · unfold nnil at hnn
            split at hnn
            · exact hv
            · exact (hnn (by rw [e]; exact hy)).elim
          show VRel tgt w (.ro t) y.1 V
          rw [← e]
          rcases hnh with h1 | h1
          · refine VRel.mono (fun b o h2 h3 => ⟨ht h1 b ⟨fun r g hg => ?_, h2.2⟩, h3⟩) hV
            refine h2.1 r g ?_
            rw [look_dels] at hg ⊢
            split at hg
            · cases hg
            · rename_i hnD
              rw [if_neg (fun hl => hnD (hD r (by simp [hl])))]
              exact hg
          · exact VRel.noRo h1 hV
        · cases h
      | row t =>
        cases v with
        | sl r =>
          simp only [resEnd] at h
          split at h
          · rename_i t' xs hl
            split at h
            · rename_i z vc' ids' ds' hz hr
              cases h
              obtain ⟨e1, e2⟩ := castTy_some hz
              cases e1
              subst e2
              obtain ⟨rl, i1, i2, i3⟩ := ih y.2 vs Vs' vc' ids' _ hr (fun p hp => hvc p (by simp [hp])) hD hnt hall'
              have e : xs = y.1 := hvc _ (by simp)
              refine ⟨φ r :: rl, ⟨V, Vs', _, rl, rfl, rfl, ⟨?_, ?_⟩, i1⟩, ?_, ?_⟩
              · rw [← e]; exact hreg _ _ hnh (R.rg r _ hl)
              · rw [← e]; exact hv _ _ hl
              · simp only [freshLocs, RK.fresh, if_true, blks, List.map_cons, List.filterMap_cons]
                simp only [blks] at i2
                rw [i2]
              · intro s hs
                rcases List.mem_cons.1 hs with hs | hs
                · exact ⟨_, hs ▸ hl⟩
                · exact i3 s hs
            · cases h
          · cases h
        | nilsl =>
          simp only [resEnd] at h
          split at h
          · rename_i vc' ids' ds' hr
            cases h
            obtain ⟨rl, i1, i2, i3⟩ := ih y.2 vs Vs' vc' ids _ hr (fun p hp => hvc p (by simp [hp])) hD hnt hall'
            have e : [] = y.1 := hvc _ (by simp)
            refine ⟨⟨none, 0, 0⟩ :: rl, ⟨V, Vs', _, rl, rfl, rfl, ⟨?_, ?_⟩, i1⟩, ?_, i3⟩
            · rw [← e]; exact ⟨Nat.le_refl _, rfl⟩
            · rw [← e]; exact hv
            · simp only [freshLocs, RK.fresh, if_true, blks, List.filterMap_cons]
              simpa [blks] using i2
          · cases h
        | _ => simp [resEnd] at h
      | box t =>
        cases v with
        | addr r p =>
          cases p with
          | cons s p => simp [resEnd] at h
          | nil =>
          simp only [resEnd] at h
          split at h
          · rename_i t' x hl
            split at h
            · rename_i z vc' ids' ds' hz hr
              cases h
              obtain ⟨e1, e2⟩ := castTy_some hz
              subst e1
              subst e2
              obtain ⟨rl, i1, i2, i3⟩ := ih y.2 vs Vs' vc' ids' _ hr (fun p hp => hvc p (by simp [hp])) hD hnt hall'
              have e : x = y.1 := hvc _ (by simp)
              obtain ⟨b, e3, e4, e5⟩ := hv _ hl
              refine ⟨φ r :: rl, ⟨V, Vs', _, rl, rfl, rfl, ⟨?_, ?_⟩, i1⟩, ?_, ?_⟩
              · rw [← e]; exact hreg _ _ hnh (R.rg r _ hl)
              · rw [e5, e3]; simp [poff]
              · simp only [freshLocs, RK.fresh, if_true, blks, List.map_cons, List.filterMap_cons]
                simp only [blks] at i2
                rw [i2]
              · intro s hs
                rcases List.mem_cons.1 hs with hs | hs
                · exact ⟨_, hs ▸ hl⟩
                · exact i3 s hs
            · cases h
          · cases h
        | _ => simp [resEnd] at h
      | obox t =>
        cases v with
        | addr r p =>
          cases p with
          | cons s p => simp [resEnd] at h
          | nil =>
          simp only [resEnd] at h
          split at h
          · rename_i t' x hl
            split at h
            · rename_i z vc' ids' ds' hz hr
              cases h
              obtain ⟨e1, e2⟩ := castTy_some hz
              subst e1
              subst e2
              obtain ⟨rl, i1, i2, i3⟩ := ih y.2 vs Vs' vc' ids' _ hr (fun p hp => hvc p (by simp [hp])) hD hnt hall'
              have e : some x = y.1 := hvc _ (by simp)
              obtain ⟨b, e3, e4, e5⟩ := hv _ hl
              refine ⟨φ r :: rl, ⟨V, Vs', _, rl, rfl, rfl, ⟨?_, ?_⟩, i1⟩, ?_, ?_⟩
              · rw [← e]; exact ⟨(hreg (.box t' x) _ hnh (R.rg r _ hl)).1, (hreg (.box t' x) _ hnh (R.rg r _ hl)).2⟩
              · rw [e5, e3]; simp [poff]
              · simp only [freshLocs, RK.fresh, if_true, blks, List.map_cons, List.filterMap_cons]
                simp only [blks] at i2
                rw [i2]
              · intro s hs
                rcases List.mem_cons.1 hs with hs | hs
                · exact ⟨_, hs ▸ hl⟩
                · exact i3 s hs
            · cases h
          · cases h
        | nilp =>
          simp only [resEnd] at h
          split at h
          · rename_i vc' ids' ds' hr
            cases h
            obtain ⟨rl, i1, i2, i3⟩ := ih y.2 vs Vs' vc' ids _ hr (fun p hp => hvc p (by simp [hp])) hD hnt hall'
            have e : none = y.1 := hvc _ (by simp)
            refine ⟨⟨none, 0, 0⟩ :: rl, ⟨V, Vs', _, rl, rfl, rfl, ⟨?_, hv⟩, i1⟩, ?_, i3⟩
            · rw [← e]; rfl
            · simp only [freshLocs, RK.fresh, if_true, blks, List.filterMap_cons]
              simpa [blks] using i2
          · cases h
        | _ => simp [resEnd] at h

theorem ioEnd_sound {cx : Cx} {φ : Phi} {st : St} {a : Act} {w : World} (R : RelF cx φ st a w) (esc : Bool) {tgt : Nat → Prop}
    (ht : esc = true → ∀ b, okOf st.regs φ b → tgt b) :
    ∀ (ps : List PK) (x : dens ps) (y : outs ps) (n : Nat) (ls : List Loc) (vc : List Prop), ls.length = ps.length → ioEnd st.regs ps y n = some vc → (∀ p ∈ vc, p) → (∀ p ∈ lenEnd ps x y, p) →
      (∀ r l, (r, l) ∈ ioList ps ls n → (r, l) ∈ cx.io) → (esc = true ∨ ps.all (fun p => !p.io || p.ty.noRo) = true) → OutRel tgt w ps x y ls ∧ ∀ r l, (r, l) ∈ ioList ps ls n → ∃ g, look st.regs r = some g := by
  have hreg : ∀ (g : Reg) (l : Loc), (esc = true ∨ g.noRo = true) → g.at (okOf st.regs φ) w l → g.at tgt w l := by
    intro g l h hg
    rcases h with h | h
    · exact Reg.at_mono (fun b o h1 h2 => ⟨ht h b h1, h2⟩) (fun _ _ => rfl) hg
    · exact Reg.at_noRo h hg
  intro ps
  induction ps with
  | nil =>
    intro x y n ls vc hlen h hvc hle hio hn
    cases ls with
    | nil => exact ⟨trivial, by simp [ioList]⟩
    | cons l ls => simp at hlen
  | cons p ps ih =>
    intro x y n ls vc hlen h hvc hle hio hn
    cases ls with
    | nil => simp at hlen
    | cons l ls =>
    have hlen' : ls.length = ps.length := by simpa using hlen
    have hnt : esc = true ∨ ps.all (fun p => !p.io || p.ty.noRo) = true := by
      rcases hn with hn | hn
      · exact .inl hn
      · simp only [List.all_cons, Bool.and_eq_true] at hn; exact .inr hn.2
    have hnh : p.io = true → (esc = true ∨ p.ty.noRo = true) := by
      intro hp
      rcases hn with hn | hn
      · exact .inl hn
      · simp only [List.all_cons, Bool.and_eq_true, hp, Bool.not_true, Bool.false_or] at hn; exact .inr hn.1
    cases p with
    | v t =>
      simp only [ioEnd] at h
      exact ih x.2 y.2 n ls vc hlen' h hvc hle hio hnt
    | box t =>
      simp only [ioEnd] at h
      split at h
      · rename_i t' z0 hl
        split at h
        · rename_i z vc' hz hr
          cases h
          obtain ⟨e1, e2⟩ := castTy_some hz
          subst e1
          subst e2
          have hin : (n, l) ∈ cx.io := hio n l (by simp [ioList, PK.io])
          obtain ⟨i1, i2⟩ := ih x.2 y.2 (n + 1) ls vc' hlen' hr (fun p hp => hvc p (by simp [hp])) hle (fun r l' h => hio r l' (by simp [ioList, PK.io, h])) hnt
          have e : z0 = y.1 := hvc _ (by simp)
          have hφ := R.io n l hin (by rw [hl]; rfl)
          refine ⟨⟨⟨l, rfl, ?_⟩, i1⟩, ?_⟩
          · rw [← e, ← hφ]; exact hreg _ _ (hnh rfl) (R.rg n _ hl)
          · intro r l' h
            simp only [ioList, PK.io, if_true] at h
            rcases List.mem_cons.1 h with h | h
            · cases h; exact ⟨_, hl⟩
            · exact i2 r l' h
        · cases h
      · cases h
    | row t =>
      simp only [ioEnd] at h
      split at h
      · rename_i t' xs hl
        split at h
        · rename_i z vc' hz hr
          cases h
          obtain ⟨e1, e2⟩ := castTy_some hz
          cases e1
          subst e2
          have hin : (n, l) ∈ cx.io := hio n l (by simp [ioList, PK.io])
          obtain ⟨i1, i2⟩ := ih x.2 y.2 (n + 1) ls vc' hlen' hr (fun p hp => hvc p (by simp [hp])) (fun p hp => hle p (by simp [lenEnd, hp])) (fun r l' h => hio r l' (by simp [ioList, PK.io, h])) hnt
          have e : xs = y.1 := hvc _ (by simp)
          have hφ := R.io n l hin (by rw [hl]; rfl)
          refine ⟨⟨⟨l, rfl, ?_, hle _ (by simp [lenEnd])⟩, i1⟩, ?_⟩
          · rw [← e, ← hφ]; exact hreg _ _ (hnh rfl) (R.rg n _ hl)
          · intro r l' h
            simp only [ioList, PK.io, if_true] at h
            rcases List.mem_cons.1 h with h | h
            · cases h; exact ⟨_, hl⟩
            · exact i2 r l' h
        · cases h
      · cases h

theorem ioEnd_live {rs : Regs} : ∀ (ps : List PK) (y : outs ps) (n : Nat) (ls : List Loc) (vc : List Prop), ioEnd rs ps y n = some vc → ∀ r l, (r, l) ∈ ioList ps ls n → ∃ g, look rs r = some g
  | [], _, _, _, _, _, r, l, hm => by simp [ioList] at hm
  | _ :: _, _, _, [], _, _, r, l, hm => by simp [ioList] at hm
  | .v t :: ps, y, n, l0 :: ls, vc, h, r, l, hm => by
    simp only [ioEnd] at h
    exact ioEnd_live ps y.2 n ls vc h r l (by simpa [ioList, PK.io] using hm)
  | .box t :: ps, y, n, l0 :: ls, vc, h, r, l, hm => by
    simp only [ioEnd] at h
    split at h
    · rename_i hl
      split at h
      · rename_i hr
        simp only [ioList, PK.io, if_true] at hm
        rcases List.mem_cons.1 hm with hm | hm
        · cases hm; exact ⟨_, hl⟩
        · exact ioEnd_live ps y.2 (n + 1) ls _ hr r l hm
      · cases h
    · cases h
  | .row t :: ps, y, n, l0 :: ls, vc, h, r, l, hm => by
    simp only [ioEnd] at h
    split at h
    · rename_i hl
      split at h
      · rename_i hr
        simp only [ioList, PK.io, if_true] at hm
        rcases List.mem_cons.1 hm with hm | hm
        · cases hm; exact ⟨_, hl⟩
        · exact ioEnd_live ps y.2 (n + 1) ls _ hr r l hm
      · cases h
    · cases h

theorem blks_inj : ∀ {ls : List Loc} {i j : Nat} {l l' : Loc} {b : Nat}, (blks ls).Nodup → ls[i]? = some l → ls[j]? = some l' → l.blk = some b → l'.blk = some b → i = j
  | [], i, _, _, _, _, _, h, _, _, _ => by simp at h
  | l0 :: ls, i, j, l, l', b, hn, hi, hj, h1, h2 => by
    have hmem : ∀ {k : Nat} {l : Loc}, ls[k]? = some l → l.blk = some b → b ∈ blks ls := fun hk hb => List.mem_filterMap.2 ⟨_, List.mem_of_getElem? hk, hb⟩
    have hn' : (blks ls).Nodup ∧ (l0.blk = some b → b ∉ blks ls) := by
      simp only [blks, List.filterMap_cons] at hn
      split at hn
      · rename_i e; exact ⟨hn, fun e' => by rw [e] at e'; cases e'⟩
      · rename_i b' e
        have := List.nodup_cons.1 hn
        exact ⟨this.2, fun e' => by rw [e] at e'; cases e'; exact this.1⟩
    cases i with
    | zero =>
      simp only [List.getElem?_cons_zero, Option.some.injEq] at hi
      subst hi
      cases j with
      | zero => rfl
      | succ j => exact ((hn'.2 h1) (hmem (by simpa using hj) h2)).elim
    | succ i =>
      cases j with
      | zero =>
        simp only [List.getElem?_cons_zero, Option.some.injEq] at hj
        subst hj
        exact ((hn'.2 h2) (hmem (by simpa using hi) h1)).elim
      | succ j => exact congrArg (· + 1) (blks_inj (ls := ls) hn'.1 (by simpa using hi) (by simpa using hj) h1 h2)

theorem fun_sound {E : Env} (hE : EnvOK E) {f : FuncId} {fn : Func} {c : Code} {ts : List ResAt} (S : Summ) (hf : E.P.funcs[f]? = some fn) (hb : fn.body = some c) (hts : resTmps fn = ts)
    (hnio : E.nio = ioCount S.par) (hpl : plainS S = true) (hl : loopsAll E (loopList c 0)) (h : ∀ x, S.pre x → awp E c 0 (fin E.P S x ts E.nio) (initSt S.par x fn.ntmps)) : SumOK E.P f S := by
  intro x args ls w ok okO hpre hps hnd hdis
  have hlsl := PsRel.length _ _ _ _ hps
  let cx : Cx := { P := E.P, B := w.heap.size, w0 := w, io := ioList S.par ls 0, ro := fun b => ok b ∨ okO b }
  have hown : ∀ b, cx.own b ↔ b ∈ blks (ioLocs S.par ls) := by
    intro b
    rw [← ioList_locs S.par ls 0]
    simp only [Cx.own, blks, List.mem_filterMap, List.mem_map]
    constructor
    · rintro ⟨r, l, h1, h2⟩; exact ⟨l, ⟨(r, l), h1, rfl⟩, h2⟩
    · rintro ⟨l, ⟨⟨r, l'⟩, h1, rfl⟩, h2⟩; exact ⟨r, l', h1, h2⟩
  let φ : Phi := ⟨fun r => (ioLocs S.par ls).getD r ⟨none, 0, 0⟩, fun b => cx.B ≤ b ∨ cx.own b ∨ cx.ro b⟩
  let st0 := initSt S.par x fn.ntmps
  have hφio : ∀ r l, (r, l) ∈ cx.io → φ r = l := fun r l hm => by
    have := (ioList_get _ _ _ _ _ hm).2.2
    show (ioLocs S.par ls).getD r _ = l
    simp at this
    simp [this]
  have hregs : ∀ r g, look st0.regs r = some g → ∃ l, (ioLocs S.par ls)[r]? = some l ∧ φ r = l := by
    intro r g hg
    have h1 := init_rel (ok := ok) (okO := okO) (okk := fun b => ok b ∨ okO b) (φ := φ) (w := w) (fun b o h1 h2 => ⟨.inl h1, h2⟩) (fun b o h1 h2 => ⟨.inr h1, h2⟩) S.par x args ls 0 st0.regs hps
      (fun k l hk => by show (ioLocs S.par ls).getD (0 + k) _ = l; simp [hk]) (fun _ _ => rfl)
    obtain ⟨_, l, h2, h3⟩ := h1.2.2.1 r g hg
    exact ⟨l, by simpa using (ioList_get _ _ _ _ _ h2).2.2, h3⟩
  have hok : ∀ b, (ok b ∨ okO b) → okOf st0.regs φ b := by
    intro b hb2
    refine ⟨fun r g hg hbl => ?_, .inr (.inr hb2)⟩
    obtain ⟨l, h1, h2⟩ := hregs r g hg
    have := hdis b (List.mem_filterMap.2 ⟨l, List.mem_of_getElem? h1, by rw [← h2]; exact hbl⟩)
    rcases hb2 with h3 | h3
    · exact this.1 h3
    · exact this.2 h3
  obtain ⟨k1, k2, k3, k4⟩ := init_rel (ok := ok) (okO := okO) (okk := okOf st0.regs φ) (φ := φ) (w := w) (fun b o h1 h2 => ⟨hok b (.inl h1), h2⟩) (fun b o h1 h2 => ⟨hok b (.inr h1), h2⟩) S.par x args ls 0 st0.regs hps
      (fun k l hk => by show (ioLocs S.par ls).getD (0 + k) _ = l; simp [hk]) (fun _ _ => rfl)
  have hTl : (initT S.par x 0).length = S.par.length := by
    have : ∀ (ps : List PK) (x : dens ps) n, (initT ps x n).length = ps.length := by
      intro ps
      induction ps with
      | nil => intro x n; rfl
      | cons p ps ih => intro x n; cases p <;> simp [initT, ih]
    exact this _ _ _
  let a0 : Act := { tmps := args.toArray ++ Array.replicate (fn.ntmps - args.toArray.size) undef, defers := [] }
  have R0 : RelF cx φ st0 a0 w := by
    refine ⟨?_, rfl, ?_, ?_, ?_, ?_, ?_, Kept.refl _ _ _, Nat.le_refl _, fun b => Iff.rfl⟩
    · have hl9 : args.length = S.par.length := by rw [← k1, hTl]
      simp [a0, st0, initSt, hTl, hl9]
    · intro i av hi
      simp only [st0, initSt] at hi
      rw [List.getElem?_append] at hi
      split at hi
      · rename_i hlt
        have := k2 i av hi
        have hlt' : i < args.length := by rw [← k1]; exact hlt
        have e : a0.tmps.getD i undef = args.getD i undef := by
          simp [a0, Array.getElem?_append, hlt']
        rw [e]; exact this
      · rw [List.getElem?_replicate] at hi
        split at hi
        · cases hi; trivial
        · cases hi
    · intro r g hg
      exact (k3 r g hg).1
    · intro r r' g g' b h1 h2 h3 h4
      obtain ⟨l, e1, e2⟩ := hregs r g h1
      obtain ⟨l', e3, e4⟩ := hregs r' g' h2
      exact blks_inj hnd e1 e3 (e2 ▸ h3) (e4 ▸ h4)
    · intro r g b h1 h2
      obtain ⟨l, e1, e2⟩ := hregs r g h1
      exact .inr ((hown b).2 (List.mem_filterMap.2 ⟨l, List.mem_of_getElem? e1, by rw [← e2]; exact h2⟩))
    · intro r l h1 _; exact hφio r l h1
  have hF0 : FreshFrom cx st0 st0.next := by
    intro m hm
    have hm' : ioCount S.par ≤ m := hm
    refine ⟨⟨?_, ?_⟩, ?_⟩
    · cases hl : look st0.regs m with
      | none => rfl
      | some g => have := (initR_look _ _ _ _ _ hl).2; omega
    · intro av hav hmen
      simp only [st0, initSt, List.mem_append, List.mem_replicate] at hav
      rcases hav with hav | ⟨_, rfl⟩
      · obtain ⟨i, hi⟩ := List.mem_iff_getElem?.1 hav
        have := AV.ltB_spec (k4 i av hi) hmen
        omega
      · exact hmen
    · intro l hl
      have := (ioList_get _ _ _ _ _ hl).2.1
      omega
  refine calls_of_wp hf hb ?_
  refine awp_sound hE (cx := cx) rfl (fun r l hm => by rw [hnio]; have := (ioList_get _ _ _ _ _ hm).2.1; omega) c 0 _ st0 a0 w _ hl (h x hpre) ⟨⟨φ, R0⟩, hF0⟩ ?_
  intro e st' a' w' hfin RN
  obtain ⟨⟨φ', R⟩, _⟩ := RN
  have main : (match getS E.P st'.regs st'.tmps ts with
    | some vs => match resEnd st'.regs S.res (S.fn x).1 vs, ioEnd st'.regs S.par (S.fn x).2 0 with
      | some (vc, ids, ds), some vc2 => if nodupB ids && ids.all (fun r => decide (E.nio ≤ r) && !ds.contains r) && ds.all (fun r => decide (E.nio ≤ r)) then andAll (vc ++ vc2 ++ lenEnd S.par x (S.fn x).2) True else False
      | _, _ => False
    | none => False) → bodyPost E.P fn (fun e w' => ∃ (vs : List Value) (rl : List Loc), e = .returned (retVal vs) ∧
      Kept (fun b => b ∈ blks (ioLocs S.par ls)) w.heap.size w w' ∧
      RsRel (fun b => (w.heap.size ≤ b ∧ b ∉ blks (freshLocs S.res rl)) ∨ (S.esc = true ∧ (ok b ∨ okO b) ∧ b < w.heap.size)) w' S.res (S.fn x).1 vs rl ∧
      (blks (freshLocs S.res rl)).Nodup ∧ (∀ b ∈ blks (freshLocs S.res rl), w.heap.size ≤ b) ∧
      OutRel (fun b => (w.heap.size ≤ b ∧ b ∉ blks (freshLocs S.res rl)) ∨ (S.esc = true ∧ ok b ∧ b < w.heap.size) ∨ (okO b ∧ b < w.heap.size)) w' S.par x (S.fn x).2 ls) .normal a' w' := by
    intro hm
    split at hm
    · rename_i vs hvs
      split at hm
      · rename_i vc ids ds vc2 hres hioe
        split at hm
        · rename_i hc
          obtain ⟨hvc, _⟩ := andAll_spec hm
          simp only [Bool.and_eq_true, List.all_eq_true, decide_eq_true_eq, Bool.not_eq_true', List.contains_eq_mem, decide_eq_false_iff_not] at hc
          obtain ⟨⟨c1, c2⟩, c3⟩ := hc
          have hnod := nodupB_spec c1
          obtain ⟨Vs, hVs, hall⟩ := getS_sound R ts vs hvs
          refine ⟨R.df, _, run_results (hts ▸ hVs), ?_⟩
          -- after giving up
          have R2 := R.dels ds
          have hpl' : S.esc = true ∨ (S.res.all (fun k => k.ty.noRo) = true ∧ S.par.all (fun p => !p.io || p.ty.noRo) = true) := by
            unfold plainS at hpl
            simp only [Bool.or_eq_true, Bool.and_eq_true] at hpl
            exact hpl
          have hioSet : ∀ r l, (r, l) ∈ ioList S.par ls 0 → r < E.nio := fun r l hm => by rw [hnio]; have := (ioList_get _ _ _ _ _ hm).2.1; omega
          have hlive := ioEnd_live S.par (S.fn x).2 0 ls vc2 hioe
          have hnoown : ∀ b, okOf st'.regs φ' b → ¬ cx.own b := by
            rintro b hb ⟨r, l, h1, h2⟩
            obtain ⟨g, hg⟩ := hlive r l h1
            exact hb.1 r g hg (by rw [R.io r l h1 (by rw [hg]; rfl)]; exact h2)
          have hnoown2 : ∀ b, okOf (dels st'.regs ds) φ' b → ¬ cx.own b := by
            rintro b hb ⟨r, l, h1, h2⟩
            obtain ⟨g, hg⟩ := hlive r l h1
            refine hb.1 r g ?_ (by rw [R.io r l h1 (by rw [hg]; rfl)]; exact h2)
            rw [look_dels, if_neg (fun hd => by have := c3 r hd; have := hioSet r l h1; omega)]
            exact hg
          have hlow : ∀ b, φ'.base b → ¬ cx.own b → w.heap.size ≤ b ∨ ((ok b ∨ okO b) ∧ b < w.heap.size) := by
            intro b hb hno
            rcases Nat.lt_or_ge b w.heap.size with h1 | h1
            · rcases (R.bs b).1 hb with h2 | h2 | h2
              · exact .inl h2
              · exact (hno h2).elim
              · exact .inr ⟨h2, h1⟩
            · exact .inl h1
          -- the results
          obtain ⟨_, _, _, hlv⟩ := resEnd_sound R ds true (tgt := okOf (dels st'.regs ds) φ') (fun _ _ h => h) S.res (S.fn x).1 vs _ vc ids ds hres (fun p hp => hvc p (by simp [hp])) (fun _ h => h) (.inl rfl) hall
          have hids : ∀ b ∈ blks (ids.map φ'), ∃ r ∈ ids, (φ' r).blk = some b := by
            intro b hb
            simp only [blks, List.mem_filterMap, List.mem_map] at hb
            obtain ⟨l, ⟨r, h1, rfl⟩, h2⟩ := hb
            exact ⟨r, h1, h2⟩
          have hnf : ∀ b, okOf st'.regs φ' b → b ∉ blks (ids.map φ') := by
            intro b hb hm
            obtain ⟨r, h1, h2⟩ := hids b hm
            obtain ⟨g, hg⟩ := hlv r h1
            exact hb.1 r g hg h2
          have hnf2 : ∀ b, okOf (dels st'.regs ds) φ' b → b ∉ blks (ids.map φ') := by
            intro b hb hm
            obtain ⟨r, h1, h2⟩ := hids b hm
            obtain ⟨g, hg⟩ := hlv r h1
            exact hb.1 r g (by rw [look_dels, if_neg (c2 r h1).2]; exact hg) h2
          obtain ⟨rl, r1, r2, _⟩ := resEnd_sound R ds S.esc (tgt := fun b => (w.heap.size ≤ b ∧ b ∉ blks (ids.map φ')) ∨ (S.esc = true ∧ (ok b ∨ okO b) ∧ b < w.heap.size)) (fun he b hb => by
              rcases hlow b hb.2 (hnoown2 b hb) with h1 | h1
              · exact .inl ⟨h1, hnf2 b hb⟩
              · exact .inr ⟨he, h1⟩) S.res (S.fn x).1 vs _ vc ids ds hres (fun p hp => hvc p (by simp [hp])) (fun _ h => h) (hpl'.imp id And.left) hall
          obtain ⟨o1, _⟩ := ioEnd_sound R S.esc (tgt := fun b => (w.heap.size ≤ b ∧ b ∉ blks (ids.map φ')) ∨ (S.esc = true ∧ ok b ∧ b < w.heap.size) ∨ (okO b ∧ b < w.heap.size)) (fun he b hb => by
              rcases hlow b hb.2 (hnoown b hb) with h1 | ⟨h1 | h1, h2⟩
              · exact .inl ⟨h1, hnf b hb⟩
              · exact .inr (.inl ⟨he, h1, h2⟩)
              · exact .inr (.inr ⟨h1, h2⟩)) S.par x (S.fn x).2 0 ls vc2 hlsl hioe (fun p hp => hvc p (by simp [hp])) (fun p hp => hvc p (by simp [hp])) (fun _ _ h => h) (hpl'.imp id And.right)
          refine ⟨_, rl, rfl, ?_, ?_, ?_, ?_, ?_⟩
          · have hk := R.kp
            exact ⟨hk.os, hk.tape, hk.output, hk.size, fun k h1 h2 => hk.block k h1 (fun h3 => h2 ((hown k).1 h3))⟩
          · rw [r2]; exact r1
          · rw [r2]; exact blk_nodup R ids hnod hlv
          · rw [r2]
            intro b hb
            obtain ⟨r, h1, h2⟩ := hids b hb
            obtain ⟨g, hg⟩ := hlv r h1
            rcases R.fr r g b hg h2 with h3 | ⟨r', l', h3, h4⟩
            · exact h3
            · exfalso
              obtain ⟨g', hg'⟩ := hlive r' l' h3
              have h5 := R.io r' l' h3 (by rw [hg']; rfl)
              have := R.sep r r' g g' b hg hg' h2 (by rw [h5]; exact h4)
              have h6 := (c2 r h1).1
              have h7 := hioSet r' l' h3
              omega
          · rw [r2]; exact o1
        · exact hm.elim
      · exact hm.elim
    · exact hm.elim
  cases e with
  | normal => exact main hfin
  | exit id => exact hfin.elim
  | ret => exact main hfin

end Go.Lift
