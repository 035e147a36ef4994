/- One operation: soundness. -/
import Derived.Test.YtfkedbncidahjaaL13
set_option linter.unusedVariables false
set_option linter.unusedSimpArgs false
namespace Go.Lift
open Go

set_option maxHeartbeats 4000000 in
theorem core_sound {cx : Cx} {φ : Phi} {st : St} {a : Act} {w : World} (R : RelF cx φ st a w) {n : Nat} (hf : FreshN cx st n) {arg : Operand → Option SV} {argA : Operand → Option AV} {o : Oper} {vc : List Prop} {av : AV} {e : Eff}
    (h : core cx.P st.regs n arg argA o = some (vc, av, e)) (hvc : ∀ p ∈ vc, p)
    (harg : ∀ x v, arg x = some v → SVRel st.regs φ (okOf st.regs φ) w v (a.eval x)) (hargA : ∀ x v, argA x = some v → AVRel st.regs φ (okOf st.regs φ) w v (a.eval x)) : Tells cx st a w o av e := by
  unfold core at h
  split at h
  · rename_i x ho
    rw [Option.map_eq_some_iff] at h
    obtain ⟨v, hv, e1⟩ := h
    cases e1
    exact ⟨.value (a.eval x), a.eval x, w, φ, by simp [execOp, ho], .inl rfl, R, hargA _ _ hv⟩
  · rename_i x ho
    rw [Option.map_eq_some_iff] at h
    obtain ⟨v, hv, e1⟩ := h
    cases e1
    exact ⟨.value (a.eval x), a.eval x, w, φ, by simp [execOp, ho], .inl rfl, R, hargA _ _ hv⟩
  · rename_i t ho
    simp only [oe, Option.map_eq_some_iff] at h
    obtain ⟨⟨v, e0⟩, hv, e1⟩ := h
    cases e1
    exact tells_eff (s := Instr.alloc t true (.tuple #[])) (by simp [execOp, ho]) (allocV_sound R hf hv)
  · rename_i t x ho
    split at h
    · rename_i x' hx
      simp only [oe, Option.map_eq_some_iff] at h
      obtain ⟨⟨v, e0⟩, hv, e1⟩ := h
      cases e1
      exact tells_eff (s := Instr.box t (a.eval x)) (by simp [execOp, ho]) (boxV_sound R hf hv (harg _ _ hx))
    · cases h
  · rename_i t parts ho
    split at h
    · rename_i vs hvs
      simp only [oe, Option.map_eq_some_iff] at h
      obtain ⟨⟨v, e0⟩, hv, e1⟩ := h
      cases e1
      have hp := mapParts_sound harg _ _ hvs
      obtain ⟨V, h1, h2, h3⟩ := buildV_sound R (Parts := parts.map fun p => (p.1, a.eval p.2)) hv (by simpa using hp)
      exact tells_eff (s := Instr.build t (parts.map fun p => (p.1, a.eval p.2))) (by simp [execOp, ho]) ⟨V, w, φ, h1, h2, h3⟩
    · cases h
  · rename_i t len parts ho
    split at h
    · rename_i vs hvs
      simp only [oe, Option.map_eq_some_iff] at h
      obtain ⟨⟨v, e0⟩, hv, e1⟩ := h
      cases e1
      have hp := mapParts_sound harg _ _ hvs
      exact tells_eff (s := Instr.buildSlice t len (parts.map fun p => (p.1, a.eval p.2))) (by simp [execOp, ho])
        (buildSliceV_sound R hf (Parts := parts.map fun p => (p.1, a.eval p.2)) hv (by simpa using hp))
    · cases h
  · rename_i t x ho
    split at h
    · rename_i x' hx
      simp only [o1, Option.map_eq_some_iff] at h
      obtain ⟨v, hv, e1⟩ := h
      cases e1
      exact tells_pure R (s := Instr.loadAt t (a.eval x)) (by simp [execOp, ho]) (loadV_sound R hv (harg _ _ hx))
    · cases h
  · rename_i t x y ho
    split at h
    · rename_i x' y' hx hy
      rw [Option.map_eq_some_iff] at h
      obtain ⟨e0, hv, e1⟩ := h
      cases e1
      obtain ⟨w', h1, h2⟩ := storeV_sound R hv (harg _ _ hx) (harg _ _ hy)
      exact ⟨.skip, undef, w', φ, by simp [execOp, ho, h1], .inr ⟨rfl, rfl⟩, h2, trivial⟩
    · cases h
  · rename_i x ho
    split at h
    · rename_i r p hx
      have hX := harg _ _ hx
      split at h
      · rename_i τ o' hl
        split at h
        · cases h
          have hs : o'.isSome = true := hvc _ (by simp)
          obtain ⟨_, g2, g3⟩ := hX _ hl
          rw [hs] at g2
          obtain ⟨b, hb⟩ := Option.isSome_iff_exists.1 g2
          rw [hb] at g3
          have g3' : a.eval x = .pointer (some ⟨b, 0, none⟩) := g3
          refine ⟨.value (a.eval x), a.eval x, w, φ, by simp [execOp, ho, g3'], .inl rfl, R.open hl hs, ?_⟩
          intro g hg
          have hg' : look (upd (without st.regs (some r)) r (some (.box τ (o'.getD τ.dflt)))) r = some g := hg
          rw [look_upd, if_pos rfl] at hg'
          cases hg'
          exact ⟨b, hb, by simp [pok], by rw [g3']; simp [poff]⟩
        · cases h
      · rename_i g hno hl
        cases h
        have hg := hX _ hl
        cases g with
        | row t xs =>
          obtain ⟨i, p', b, _, _, _, _, _, g6⟩ := hg
          exact ⟨.value (a.eval x), a.eval x, w, φ, by simp [execOp, ho, g6], .inl rfl, R, hX⟩
        | box t y =>
          obtain ⟨b, _, _, g3⟩ := hg
          exact ⟨.value (a.eval x), a.eval x, w, φ, by simp [execOp, ho, g3], .inl rfl, R, hX⟩
        | obox t y => exact (hno _ _ rfl).elim
      · cases h
    · rename_i t y hx
      cases h
      have hX := harg _ _ hx
      obtain ⟨b, o', cs, ty, fz, g1, g2⟩ := hX
      exact ⟨.value (a.eval x), a.eval x, w, φ, by simp [execOp, ho, g1], .inl rfl, R, harg _ _ hx⟩
    · cases h
  · rename_i op t x y t2 ho
    split at h
    · rename_i x' y' hx hy
      split at h
      · rename_i v hv
        cases h
        exact tells_pure R (s := do eqGuard op t x y (a.eval x) (a.eval y); binOp op t (a.eval x) (a.eval y)) (by simp [execOp, ho]) (nilV_sound R x y hv (harg _ _ hx) (harg _ _ hy))
      · split at h
        · rename_i hb
          simp only [o3, Option.map_eq_some_iff] at h
          obtain ⟨⟨vc', v⟩, hv, e1⟩ := h
          cases e1
          exact tells_pure R (s := do eqGuard op t x y (a.eval x) (a.eval y); binOp op t (a.eval x) (a.eval y)) (by simp [execOp, ho]) (binV_sound x y hv hvc (boolT_spec hb) (harg _ _ hx) (harg _ _ hy))
        · cases h
    · cases h
  · rename_i op t x ho
    split at h
    · rename_i x' hx
      simp only [o1, Option.map_eq_some_iff] at h
      obtain ⟨v, hv, e1⟩ := h
      cases e1
      exact tells_pure R (s := Op.unary op (a.eval x)) (by simp [execOp, ho]) (unV_sound hv (harg _ _ hx))
    · cases h
  · rename_i src dst x ho
    split at h
    · rename_i x' hx
      split at h
      · rename_i v hv
        cases h
        exact tells_pure R (s := convert src dst (a.eval x)) (by simp [execOp, ho]) (convV_sound hv (harg _ _ hx))
      · split at h
        · rename_i v hv
          cases h
          exact tells_pure R (s := convert src dst (a.eval x)) (by simp [execOp, ho]) (strOfV_sound R hv (harg _ _ hx))
        · simp only [oe, Option.map_eq_some_iff] at h
          obtain ⟨⟨v, e0⟩, hv, e1⟩ := h
          cases e1
          exact tells_eff (s := convert src dst (a.eval x)) (by simp [execOp, ho]) (bytesV_sound R hf hv (harg _ _ hx))
    · cases h
  · rename_i f first captured ho
    split at h
    · rename_i hemp
      rw [Option.map_eq_some_iff] at h
      obtain ⟨vs, hvs, e1⟩ := h
      cases e1
      have hfi : first = #[] := by
        have : first.toList = [] := by simpa using hemp
        cases first; simp_all
      have := mapArgs_sound harg _ _ hvs
      refine ⟨.value (.func (.func f) #[] (captured.map a.eval)), _, w, φ, by simp [execOp, ho, Instr.makeFunc, hfi], .inl rfl, R, ⟨_, rfl, by simpa using (show All2 (SVRel (Eff.app st.regs []) φ (okOf (Eff.app st.regs []) φ) w) vs (captured.toList.map a.eval) from this)⟩⟩
    · cases h
  · rename_i t l c ho
    split at h
    · rename_i l' c' hl hc
      simp only [of3, Option.map_eq_some_iff] at h
      obtain ⟨⟨vc', v, e0⟩, hv, e1⟩ := h
      cases e1
      exact tells_eff (s := Instr.makeSlice t (a.eval l) (a.eval c)) (by simp [execOp, ho]) (makeV_sound R hf hv hvc (harg _ _ hl) (harg _ _ hc))
    · cases h
  · rename_i t x lo hi mx ho
    split at h
    · rename_i x' lo' hi' mx' hx hlo hhi hmx
      simp only [of3, Option.map_eq_some_iff] at h
      obtain ⟨⟨vc', v, e0⟩, hv, e1⟩ := h
      cases e1
      have hopt : ∀ (y : Option Operand) (y' : Option SV), optArg arg y = some y' → ∀ q, optI y' = some q → OptV q (y.map a.eval) := by
        intro y y' hy q hq
        refine optI_sound (rs := st.regs) (φ := φ) (ok := okOf st.regs φ) (w := w) hq ?_
        cases y with
        | none => simp only [optArg, Option.some.injEq] at hy; subst hy; trivial
        | some y =>
          simp only [optArg, Option.map_eq_some_iff] at hy
          obtain ⟨s, hs, rfl⟩ := hy
          exact harg _ _ hs
      obtain ⟨V, φ', h1, h2, h3⟩ := sliceV_sound (X := a.eval x) (Lo := lo.map a.eval) (Hi := hi.map a.eval) (Mx := mx.map a.eval) R hf hv hvc (harg _ _ hx) (hopt _ _ hlo) (hopt _ _ hhi) (hopt _ _ hmx)
      exact tells_eff (s := Instr.sliceAt t (a.eval x) (lo.map a.eval) (hi.map a.eval) (mx.map a.eval)) (by simp [execOp, ho]) ⟨V, w, φ', h1, h2, h3⟩
    · cases h
  · rename_i t x k ho
    split at h
    · rename_i x' hx
      simp only [of3, Option.map_eq_some_iff] at h
      obtain ⟨⟨vc', v, e0⟩, hv, e1⟩ := h
      cases e1
      obtain ⟨V, h1, h2, h3⟩ := fieldA_sound R hv hvc (harg _ _ hx)
      exact tells_eff (s := Instr.fieldAt t (a.eval x) k) (by simp [execOp, ho]) ⟨V, w, φ, h1, h2, h3⟩
    · cases h
  · rename_i t x k ho
    split at h
    · rename_i x' hx
      simp only [o1, Option.map_eq_some_iff] at h
      obtain ⟨v, hv, e1⟩ := h
      cases e1
      exact tells_pure R (s := Instr.field t (a.eval x) k) (by simp [execOp, ho]) (fieldV_sound hv (harg _ _ hx))
    · cases h
  · rename_i t x i ho
    split at h
    · rename_i x' i' hx hi
      simp only [o3, Option.map_eq_some_iff] at h
      obtain ⟨⟨vc', v⟩, hv, e1⟩ := h
      cases e1
      exact tells_pure R (s := Instr.indexAt t (a.eval x) (a.eval i)) (by simp [execOp, ho]) (indexA_sound R hv hvc (harg _ _ hx) (harg _ _ hi))
    · cases h
  · rename_i t x i ho
    split at h
    · rename_i x' i' hx hi
      simp only [o3, Option.map_eq_some_iff] at h
      obtain ⟨⟨vc', v⟩, hv, e1⟩ := h
      cases e1
      exact tells_pure R (s := Instr.index t (a.eval x) (a.eval i)) (by simp [execOp, ho]) (indexV_sound hv hvc (harg _ _ hx) (harg _ _ hi))
    · cases h
  · rename_i x i ho
    split at h
    · rename_i vs hx
      rw [Option.map_eq_some_iff] at h
      obtain ⟨v, hv, e1⟩ := h
      cases e1
      obtain ⟨Vs, hV, hall⟩ := hargA _ _ hx
      obtain ⟨V, g1, g2⟩ := hall.get i v hv
      have g1' : Vs[i]? = some V := by simpa using g1
      exact ⟨.value V, V, w, φ, by simp [execOp, ho, hV, Instr.extract, g1'], .inl rfl, R, g2⟩
    · cases h
  · cases h
    exact (hvc False (by simp)).elim
  · rename_i t x ho
    split at h
    · cases h
    · rename_i D hD hu
      cases h
      refine ⟨.value (.iface t (a.eval x)), .iface t (a.eval x), w, φ, ?_, .inl rfl, R, trivial⟩
      simp only [execOp, ho]
      have : (Instr.makeInterface t (a.eval x)).run cx.P w = .ok (.iface t (a.eval x)) w := by
        unfold Instr.makeInterface
        simp only [Sem.run_bind, run_underlying hu, Result.andThen_ok]
        cases D <;> first | rfl | exact (hD _ hu).elim
      simp [this]
    · cases h
  · rename_i b args ts ho
    split at h
    · split at h
      · rename_i x t hx ht
        split at h
        · rename_i x' hx'
          simp only [o1, Option.map_eq_some_iff] at h
          obtain ⟨v, hv, e1⟩ := h
          cases e1
          have e2 : args = #[x] := by cases args; simp_all
          have e3 : ts = #[t] := by cases ts; simp_all
          subst e2; subst e3
          refine tells_pure R (s := Builtin.len_ #[t] o.type #[a.eval x]) ?_ (lenV_sound R hv (harg _ _ hx'))
          simp [execOp, ho, resolve, invoke, builtin]
        · cases h
      · cases h
    · split at h
      · rename_i s x sT xT hx ht
        split at h
        · rename_i s' x' hs' hx'
          simp only [of3, Option.map_eq_some_iff] at h
          obtain ⟨⟨vc', v, e0⟩, hv, e1⟩ := h
          cases e1
          have e2 : args = #[s, x] := by cases args; simp_all
          have e3 : ts = #[sT, xT] := by cases ts; simp_all
          subst e2; subst e3
          refine tells_eff (s := Builtin.append_ #[sT, xT] o.type #[a.eval s, a.eval x]) ?_ (appendV_sound R hf hv hvc (harg _ _ hs') (harg _ _ hx'))
          simp [execOp, ho, resolve, invoke, builtin]
        · cases h
      · cases h
    · split at h
      · rename_i vs hvs
        simp only [o1, Option.map_eq_some_iff] at h
        obtain ⟨v, hv, e1⟩ := h
        cases e1
        have := mapArgs_sound harg _ _ hvs
        refine tells_pure R (s := Builtin.min_ ts o.type (args.map a.eval)) ?_ (by have h9 := minV_sound (P := cx.P) (ts := ts) (t := o.type) (Xs := args.map a.eval) false hv (by simpa using this); simpa using h9)
        simp [execOp, ho, resolve, invoke, builtin]
      · cases h
    · split at h
      · rename_i vs hvs
        simp only [o1, Option.map_eq_some_iff] at h
        obtain ⟨v, hv, e1⟩ := h
        cases e1
        have := mapArgs_sound harg _ _ hvs
        refine tells_pure R (s := Builtin.max_ ts o.type (args.map a.eval)) ?_ (by have h9 := minV_sound (P := cx.P) (ts := ts) (t := o.type) (Xs := args.map a.eval) true hv (by simpa using this); simpa using h9)
        simp [execOp, ho, resolve, invoke, builtin]
      · cases h
    · cases h
  · cases h

end Go.Lift
