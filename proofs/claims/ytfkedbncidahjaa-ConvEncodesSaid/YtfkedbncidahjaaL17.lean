/- A call told by a summary: soundness. -/
import Derived.Test.YtfkedbncidahjaaL16
set_option linter.unusedVariables false
set_option linter.unusedSimpArgs false
namespace Go.Lift
open Go

def resChg : (rs : List RK) → rdens rs → Nat → List Loc → List Chg
  | .v _ :: rs, y, n, _ :: ls => resChg rs y.2 n ls
  | .vn _ :: rs, y, n, _ :: ls => resChg rs y.2 n ls
  | .row t :: rs, y, n, l :: ls => ⟨n, .row t y.1, l⟩ :: resChg rs y.2 (n + 1) ls
  | .box t :: rs, y, n, l :: ls => ⟨n, .box t y.1, l⟩ :: resChg rs y.2 (n + 1) ls
  | .obox t :: rs, y, n, l :: ls => ⟨n, .obox t y.1, l⟩ :: resChg rs y.2 (n + 1) ls
  | _, _, _, _ => []

theorem resChg_sound {ok : Nat → Prop} {w : World} : ∀ (rs : List RK) (y : rdens rs) (n : Nat) (vs : List Value) (rl : List Loc), RsRel ok w rs y vs rl →
    (resChg rs y n rl).map (fun c => (c.id, c.reg)) = resRegs rs y n ∧ (resChg rs y n rl).map (·.loc) = freshLocs rs rl ∧
    (∀ c ∈ resChg rs y n rl, c.reg.at ok w c.loc ∧ n ≤ c.id ∧ c.id < n + freshCount rs) ∧ ((resChg rs y n rl).map (·.id)).Nodup
  | [], y, n, vs, rl, h => by
    obtain ⟨rfl, rfl⟩ := h
    simp [resChg, resRegs, freshLocs]
  | r :: rs, y, n, vs, rl, h => by
    obtain ⟨v, vs', l, ls', rfl, rfl, h1, h2⟩ := h
    have key : ∀ (g : Reg), g.at ok w l → (freshCount (r :: rs) = freshCount rs + 1) →
        (∀ c ∈ (⟨n, g, l⟩ : Chg) :: resChg rs y.2 (n + 1) ls', c.reg.at ok w c.loc ∧ n ≤ c.id ∧ c.id < n + freshCount (r :: rs)) ∧ (((⟨n, g, l⟩ : Chg) :: resChg rs y.2 (n + 1) ls').map (·.id)).Nodup := by
      intro g hg hcnt
      obtain ⟨_, _, i3, i4⟩ := resChg_sound rs y.2 (n + 1) vs' ls' h2
      constructor
      · intro c hc
        rcases List.mem_cons.1 hc with hc | hc
        · subst hc; exact ⟨hg, Nat.le_refl _, by rw [hcnt]; show n < _; omega⟩
        · obtain ⟨j1, j2, j3⟩ := i3 c hc
          exact ⟨j1, by omega, by rw [hcnt]; omega⟩
      · simp only [List.map_cons, List.nodup_cons]
        refine ⟨fun hm => ?_, i4⟩
        obtain ⟨c, hc, e⟩ := List.mem_map.1 hm
        have := (i3 c hc).2.1
        omega
    cases r with
    | vn t =>
      obtain ⟨i1, i2, i3, i4⟩ := resChg_sound rs y.2 n vs' ls' h2
      exact ⟨by simp [resChg, resRegs, i1], by simp [resChg, freshLocs, RK.fresh, i2], by simpa [resChg, freshCount, RK.fresh] using i3, by simpa [resChg] using i4⟩
    | v t =>
      obtain ⟨i1, i2, i3, i4⟩ := resChg_sound rs y.2 n vs' ls' h2
      exact ⟨by simp [resChg, resRegs, i1], by simp [resChg, freshLocs, RK.fresh, i2], by simpa [resChg, freshCount, RK.fresh] using i3, by simpa [resChg] using i4⟩
    | row t =>
      obtain ⟨i1, i2, _, _⟩ := resChg_sound rs y.2 (n + 1) vs' ls' h2
      obtain ⟨k1, k2⟩ := key _ h1.1 (by unfold freshCount; rw [List.filter_cons_of_pos rfl]; rfl)
      exact ⟨by simp [resChg, resRegs, i1], by simp [resChg, freshLocs, RK.fresh, i2], k1, k2⟩
    | box t =>
      obtain ⟨i1, i2, _, _⟩ := resChg_sound rs y.2 (n + 1) vs' ls' h2
      obtain ⟨k1, k2⟩ := key _ h1.1 (by unfold freshCount; rw [List.filter_cons_of_pos rfl]; rfl)
      exact ⟨by simp [resChg, resRegs, i1], by simp [resChg, freshLocs, RK.fresh, i2], k1, k2⟩
    | obox t =>
      obtain ⟨i1, i2, _, _⟩ := resChg_sound rs y.2 (n + 1) vs' ls' h2
      obtain ⟨k1, k2⟩ := key _ h1.1 (by unfold freshCount; rw [List.filter_cons_of_pos rfl]; rfl)
      exact ⟨by simp [resChg, resRegs, i1], by simp [resChg, freshLocs, RK.fresh, i2], k1, k2⟩

theorem resVs_sound {ok ok' : Nat → Prop} {w : World} {R : Regs} {φ : Phi} (hm : ∀ b o, ok b → w.heap[b]? = some o → ok' b ∧ w.heap[b]? = some o) : ∀ (rs : List RK) (y : rdens rs) (n : Nat) (vs : List Value) (rl : List Loc), RsRel ok w rs y vs rl →
    (∀ c ∈ resChg rs y n rl, look R c.id = some c.reg ∧ φ c.id = c.loc) → All2 (SVRel R φ ok' w) (resVs rs y n) vs
  | [], y, n, vs, rl, h, _ => by
    obtain ⟨rfl, rfl⟩ := h
    exact .nil
  | r :: rs, y, n, vs, rl, h, hc => by
    obtain ⟨v, vs', l, ls', rfl, rfl, h1, h2⟩ := h
    cases r with
    | v t => exact .cons (VRel.mono hm h1) (resVs_sound hm rs y.2 n vs' ls' h2 hc)
    | vn t => exact .cons ⟨VRel.mono hm h1.1, h1.2⟩ (resVs_sound hm rs y.2 n vs' ls' h2 hc)
    | row t =>
      obtain ⟨e1, e2⟩ := hc ⟨n, .row t y.1, l⟩ (List.mem_cons_self ..)
      refine .cons ?_ (resVs_sound hm rs y.2 (n + 1) vs' ls' h2 (fun c hc' => hc c (List.mem_cons_of_mem _ hc')))
      intro t' xs' hl
      rw [e1] at hl; cases hl
      rw [e2]
      exact h1.2
    | box t =>
      obtain ⟨e1, e2⟩ := hc ⟨n, .box t y.1, l⟩ (List.mem_cons_self ..)
      refine .cons ?_ (resVs_sound hm rs y.2 (n + 1) vs' ls' h2 (fun c hc' => hc c (List.mem_cons_of_mem _ hc')))
      intro g hl
      rw [e1] at hl; cases hl
      obtain ⟨f0, b, cs, ty, fz, f1, _⟩ := h1.1
      refine ⟨b, by rw [e2]; exact f1, by simp [pok], ?_⟩
      have := h1.2
      rw [f1] at this
      simpa [poff] using this
    | obox t =>
      obtain ⟨e1, e2⟩ := hc ⟨n, .obox t y.1, l⟩ (List.mem_cons_self ..)
      refine .cons ?_ (resVs_sound hm rs y.2 (n + 1) vs' ls' h2 (fun c hc' => hc c (List.mem_cons_of_mem _ hc')))
      intro g hl
      rw [e1] at hl; cases hl
      refine ⟨rfl, ?_, by rw [e2]; exact h1.2⟩
      have h3 := h1.1
      rw [e2]
      cases ho : y.1 with
      | none =>
        rw [ho] at h3
        have h3' : l.blk = none := h3
        rw [h3']; rfl
      | some z =>
        rw [ho] at h3
        obtain ⟨_, b, cs, ty, fz, f1, _⟩ := h3
        rw [f1]; rfl

theorem retAV_sound {R : Regs} {φ : Phi} {ok : Nat → Prop} {w : World} {xs : List SV} {vs : List Value} (h : All2 (SVRel R φ ok w) xs vs) : AVRel R φ ok w (retAV xs) (retVal vs) := by
  cases h with
  | nil => exact ⟨#[], rfl, .nil⟩
  | cons h1 h2 =>
    cases h2 with
    | nil => exact h1
    | cons h3 h4 => exact ⟨_, rfl, .cons h1 (.cons h3 h4)⟩

theorem app_all (rs : Regs) : ∀ (L : List (Bool × Chg)), applyAll rs L = Eff.app rs (L.map fun oc => Chg.eff oc.1 oc.2)
  | [] => rfl
  | (o, c) :: L => by simp only [applyAll, List.map_cons, Eff.app]; exact app_all _ L

theorem blk_nodup {cx : Cx} {φ : Phi} {st : St} {a : Act} {w : World} (R : RelF cx φ st a w) : ∀ (io : List Nat), io.Nodup → (∀ r ∈ io, ∃ g, look st.regs r = some g) → (blks (io.map φ)).Nodup
  | [], _, _ => by simp [blks]
  | r :: io, hnd, hlive => by
    have hnd' := List.nodup_cons.1 hnd
    have ih' := blk_nodup R io hnd'.2 (fun s hs => hlive s (List.mem_cons_of_mem _ hs))
    simp only [blks, List.map_cons, List.filterMap_cons]
    split
    · exact ih'
    · rename_i b hbk
      refine List.nodup_cons.2 ⟨fun hm => ?_, ih'⟩
      simp only [List.mem_filterMap, List.mem_map] at hm
      obtain ⟨l, ⟨s, hs, rfl⟩, h2⟩ := hm
      obtain ⟨g, h3⟩ := hlive r (List.mem_cons_self ..)
      obtain ⟨g', h4⟩ := hlive s (List.mem_cons_of_mem _ hs)
      have := R.sep r s g g' b h3 h4 hbk h2
      subst this
      exact hnd'.1 hs

theorem callV_sound {cx : Cx} {φ : Phi} {st : St} {a : Act} {w : World} (R : RelF cx φ st a w) {f : FuncId} {S : Summ} (hS : SumOK cx.P f S) {n : Nat} (hf : ∀ k, k < 8 → FreshN cx st (n + k))
    {vs : List SV} {Vs : List Value} {vc : List Prop} {av : AV} {e : Eff} (h : callV S st.regs n vs = some (vc, av, e)) (hvc : ∀ p ∈ vc, p) (hall : All2 (SVRel st.regs φ (okOf st.regs φ) w) vs Vs) :
    Calls cx.P f Vs.toArray w fun e' w' => ∃ V φ', e' = .returned V ∧ RelF cx φ' { st with regs := e.app st.regs } a w' ∧ AVRel (e.app st.regs) φ' (okOf (e.app st.regs) φ') w' av V := by
  unfold callV at h
  split at h
  · rename_i x vc0 io bo hb
    split at h
    · rename_i hc
      simp only [Bool.and_eq_true, decide_eq_true_eq, List.all_eq_true, Bool.not_eq_true', List.contains_eq_mem, decide_eq_false_iff_not] at hc
      obtain ⟨⟨hnd, hbo⟩, hcnt⟩ := hc
      have hnd := nodupB_spec hnd
      simp only [Option.some.injEq, Prod.mk.injEq] at h
      obtain ⟨rfl, rfl, rfl⟩ := h
      have hpre : S.pre x := hvc _ (by simp)
      have hvc0 : ∀ p ∈ vc0, p := fun p hp => hvc p (by simp [hp])
      have hbosp := bindP_bo _ _ _ _ _ _ hb
      -- what may be read
      let ok : Nat → Prop := fun b => okOf st.regs φ b ∨ (S.esc = false ∧ ∀ r ∈ io, (φ r).blk ≠ some b)
      have hlive : ∀ r ∈ io, ∃ g, look st.regs r = some g := by
        obtain ⟨_, _, _, h4⟩ := bindP_sound R (fun _ => True) (fun _ _ => trivial) _ _ _ _ _ _ _ hb hvc0 (fun _ _ _ _ => trivial) hall
        exact h4
      obtain ⟨ls, hps, hio, _⟩ := bindP_sound R ok (fun b h => .inl h) _ _ _ _ _ _ _ hb hvc0 (fun r hr b hbk => by
        obtain ⟨h1, g, h2⟩ := hbosp r hr
        refine .inr ⟨h1, fun s hs hsb => ?_⟩
        obtain ⟨g', h3⟩ := hlive s hs
        have := R.sep r s g g' b h2 h3 hbk hsb
        subst this
        exact hbo r hr hs) hall
      have hll := hps.length
      have hblks : ∀ b, b ∈ blks (ioLocs S.par ls) ↔ ∃ r ∈ io, (φ r).blk = some b := by
        intro b
        rw [hio]
        simp only [blks, List.mem_filterMap, List.mem_map]
        constructor
        · rintro ⟨l, ⟨r, hr, rfl⟩, h2⟩; exact ⟨r, hr, h2⟩
        · rintro ⟨r, hr, h2⟩; exact ⟨_, ⟨r, hr, rfl⟩, h2⟩
      have hblkn : (blks (ioLocs S.par ls)).Nodup := by rw [hio]; exact blk_nodup R io hnd hlive
      refine (hS x Vs ls w ok (okOf st.regs φ) hpre hps hblkn (fun b hbm => ?_)).mono ?_
      · obtain ⟨r, hr, h2⟩ := (hblks b).1 hbm
        obtain ⟨g, h3⟩ := hlive r hr
        refine ⟨?_, fun h => h.1 r g h3 h2⟩
        rintro (h | ⟨_, h⟩)
        · exact h.1 r g h3 h2
        · exact h r hr h2
      · rintro e' w' ⟨rvs, rl, rfl, hk, hres, hfn, hfb, hout⟩
        obtain ⟨c1, c2, c3, c4⟩ := resChg_sound S.res (S.fn x).1 n rvs rl hres
        obtain ⟨d1, d2⟩ := ioRegs_sound (φ := φ) S.par vs x vc0 io bo (S.fn x).2 ls hb hvc0 hio hll hout
        let Lio : List (Bool × Chg) := (ioRegs S.par (S.fn x).2 io).map fun p => (true, ⟨p.1, p.2, φ p.1⟩)
        let Lres : List (Bool × Chg) := (resChg S.res (S.fn x).1 n rl).map fun c => (false, c)
        have hmemT : ∀ c, (true, c) ∈ Lio ++ Lres → ∃ g', (c.id, g') ∈ ioRegs S.par (S.fn x).2 io ∧ c.reg = g' ∧ c.loc = φ c.id := by
          intro c hc
          rcases List.mem_append.1 hc with hc | hc
          · obtain ⟨p, hp, e⟩ := List.mem_map.1 hc
            cases e
            exact ⟨p.2, hp, rfl, rfl⟩
          · obtain ⟨p, hp, e⟩ := List.mem_map.1 hc
            cases e
        have hmemF : ∀ c, (false, c) ∈ Lio ++ Lres → c ∈ resChg S.res (S.fn x).1 n rl := by
          intro c hc
          rcases List.mem_append.1 hc with hc | hc
          · obtain ⟨p, hp, e⟩ := List.mem_map.1 hc
            cases e
          · obtain ⟨p, hp, e⟩ := List.mem_map.1 hc
            cases e
            exact hp
        have hidT : ∀ c, (true, c) ∈ Lio ++ Lres → c.id ∈ io := by
          intro c hc
          obtain ⟨g', h1, _⟩ := hmemT c hc
          rw [← d1]
          exact List.mem_map.2 ⟨_, h1, rfl⟩
        have hfreshid : ∀ c ∈ resChg S.res (S.fn x).1 n rl, FreshN cx st c.id := by
          intro c hc
          obtain ⟨_, h2, h3⟩ := c3 c hc
          have := hf (c.id - n) (by omega)
          rwa [show n + (c.id - n) = c.id from by omega] at this
        have hids : ((Lio ++ Lres).map (·.2.id)).Nodup := by
          have e1 : (Lio ++ Lres).map (·.2.id) = io ++ (resChg S.res (S.fn x).1 n rl).map (·.id) := by
            simp only [Lio, Lres, List.map_append, List.map_map]
            congr 1
          rw [e1]
          refine List.nodup_append.2 ⟨hnd, c4, fun r hr s hs e => ?_⟩
          obtain ⟨c, hc, e2⟩ := List.mem_map.1 hs
          obtain ⟨g, hg⟩ := hlive r hr
          have := (hfreshid c hc).1.1
          rw [e2, ← e, hg] at this
          cases this
        have hEff : Eff.app st.regs ((ioRegs S.par (S.fn x).2 io).map (fun p => EffI.set (some p.1) p.1 p.2) ++ (resRegs S.res (S.fn x).1 n).map (fun p => EffI.set none p.1 p.2)) = applyAll st.regs (Lio ++ Lres) := by
          rw [app_all]
          congr 1
          rw [← c1]
          simp only [Lio, Lres, List.map_append, List.map_map]
          congr 1
        rw [hEff]
        have hblkOf : ∀ c ∈ resChg S.res (S.fn x).1 n rl, ∀ b, c.loc.blk = some b → b ∈ blks (freshLocs S.res rl) := by
          intro c hc b hbk
          rw [← c2]
          exact List.mem_filterMap.2 ⟨c.loc, List.mem_map.2 ⟨c, hc, rfl⟩, hbk⟩
        have hsepF : ∀ c c' b, c ∈ resChg S.res (S.fn x).1 n rl → c' ∈ resChg S.res (S.fn x).1 n rl → c.loc.blk = some b → c'.loc.blk = some b → c.id = c'.id := by
          intro c c' b h1 h2 h3 h4
          rw [← c2] at hfn
          have aux : ∀ (l : List Chg), (blks (l.map (·.loc))).Nodup → c ∈ l → c' ∈ l → c = c' := by
            intro l
            induction l with
            | nil => intro _ h; cases h
            | cons d l ih =>
              intro hnd hc hc'
              simp only [blks, List.map_cons, List.filterMap_cons] at hnd
              have hin : ∀ q ∈ l, q.loc.blk = some b → b ∈ blks (l.map (·.loc)) := fun q hq hqb => List.mem_filterMap.2 ⟨q.loc, List.mem_map.2 ⟨q, hq, rfl⟩, hqb⟩
              rcases List.mem_cons.1 hc with k1 | k1 <;> rcases List.mem_cons.1 hc' with k2 | k2
              · rw [k1, k2]
              · rw [← k1, h3] at hnd
                exact ((List.nodup_cons.1 hnd).1 (hin _ k2 h4)).elim
              · rw [← k2, h4] at hnd
                exact ((List.nodup_cons.1 hnd).1 (hin _ k1 h3)).elim
              · refine ih ?_ k1 k2
                split at hnd
                · exact hnd
                · exact (List.nodup_cons.1 hnd).2
          rw [aux _ hfn h1 h2]
        -- what may be read afterwards
        have hokA : ∀ b, ((w.heap.size ≤ b ∧ b ∉ blks (freshLocs S.res rl)) ∨ (S.esc = true ∧ ok b ∧ b < w.heap.size) ∨ (okOf st.regs φ b ∧ b < w.heap.size)) → okOf (applyAll st.regs (Lio ++ Lres)) (setLocs φ ((Lio ++ Lres).map (·.2))) b := by
          intro b hb0
          have hids' : (((Lio ++ Lres).map (·.2)).map (·.id)).Nodup := by rw [List.map_map]; exact hids
          have hb1 : (w.heap.size ≤ b ∧ b ∉ blks (freshLocs S.res rl)) ∨ (okOf st.regs φ b ∧ b < w.heap.size) := by
            rcases hb0 with h | ⟨h, h' | ⟨h', _⟩, h2⟩ | h
            · exact .inl h
            · exact .inr ⟨h', h2⟩
            · rw [h] at h'; cases h'
            · exact .inr h
          refine ⟨fun s g hs hsb => ?_, ?_⟩
          rotate_left
          · show φ.base b
            rcases hb1 with ⟨h, _⟩ | ⟨h, _⟩
            · exact (R.bs b).2 (.inl (Nat.le_trans R.hB h))
            · exact h.2
          rcases look_applyAll_some hids hs with ⟨o, c, m1, e1, _⟩ | ⟨m1, l1⟩
          · subst e1
            rw [setLocs_mem _ φ c hids' (List.mem_map.2 ⟨(o, c), m1, rfl⟩)] at hsb
            cases o with
            | false =>
              have hin := hblkOf c (hmemF c m1) b hsb
              have hsz := hfb b hin
              rcases hb1 with ⟨_, h⟩ | ⟨_, h⟩
              · exact h hin
              · omega
            | true =>
              obtain ⟨g', h1, _, h3⟩ := hmemT c m1
              rw [h3] at hsb
              obtain ⟨g0, hg0⟩ := hlive c.id (hidT c m1)
              have hlt := Reg.at_block (R.rg _ _ hg0) hsb
              rcases hb1 with ⟨h, _⟩ | ⟨h, _⟩
              · omega
              · exact h.1 _ _ hg0 hsb
          · rw [setLocs_not _ φ s (fun c hc => by
              obtain ⟨oc, h1, h2⟩ := List.mem_map.1 hc
              subst h2; exact m1 oc h1)] at hsb
            have hlt := Reg.at_block (R.rg _ _ l1) hsb
            rcases hb1 with ⟨h, _⟩ | ⟨h, _⟩
            · omega
            · exact h.1 _ _ l1 hsb
        have hids' : (((Lio ++ Lres).map (·.2)).map (·.id)).Nodup := by rw [List.map_map]; exact hids
        refine ⟨retVal rvs, _, rfl, R.many (w' := w') (Lio ++ Lres) hids ?_ ?_ ?_ ?_ ?_ hk.os hk.tape hk.output hk.size, ?_⟩
        · intro c hc
          obtain ⟨g', h1, h2, h3⟩ := hmemT c hc
          obtain ⟨h4, _⟩ := d2 _ _ h1
          rw [h2]
          exact ⟨h3.symm, h4⟩
        · intro c hc
          exact ⟨hfreshid c (hmemF c hc), fun b hb => hfb b (hblkOf c (hmemF c hc) b hb)⟩
        · intro c c' b h1 h2 h3 h4
          exact hsepF c c' b (hmemF c h1) (hmemF c' h2) h3 h4
        · intro b hlt hno
          refine hk.block b hlt fun hm => ?_
          obtain ⟨r, hr, h2⟩ := (hblks b).1 hm
          rw [← d1] at hr
          obtain ⟨p, hp, e⟩ := List.mem_map.1 hr
          refine hno ⟨p.1, p.2, φ p.1⟩ (List.mem_append_left _ (List.mem_map.2 ⟨p, hp, rfl⟩)) ?_
          rw [e]; exact h2
        · intro o c hc
          cases o with
          | true =>
            obtain ⟨g', h1, h2, h3⟩ := hmemT c hc
            obtain ⟨_, h4⟩ := d2 _ _ h1
            rw [h2, h3]
            exact Reg.at_mono (fun b o h5 h6 => ⟨hokA b h5, h6⟩) (fun _ _ => rfl) h4
          | false =>
            refine Reg.at_mono (fun b o h5 h6 => ⟨hokA b ?_, h6⟩) (fun _ _ => rfl) (c3 c (hmemF c hc)).1
            rcases h5 with h5 | ⟨h5, h6 | h6, h7⟩
            · exact .inl h5
            · exact .inr (.inl ⟨h5, h6, h7⟩)
            · exact .inr (.inr ⟨h6, h7⟩)
        · refine retAV_sound (resVs_sound (fun b o h5 h6 => ⟨hokA b ?_, h6⟩) S.res (S.fn x).1 n rvs rl hres (fun c hc => ?_))
          · rcases h5 with h5 | ⟨h5, h6 | h6, h7⟩
            · exact .inl h5
            · exact .inr (.inl ⟨h5, h6, h7⟩)
            · exact .inr (.inr ⟨h6, h7⟩)
          · have hm : (false, c) ∈ Lio ++ Lres := List.mem_append_right _ (List.mem_map.2 ⟨c, hc, rfl⟩)
            exact ⟨look_applyAll_mem _ _ false c hids hm, setLocs_mem _ φ c hids' (List.mem_map.2 ⟨_, hm, rfl⟩)⟩
    · cases h
  · cases h

end Go.Lift
