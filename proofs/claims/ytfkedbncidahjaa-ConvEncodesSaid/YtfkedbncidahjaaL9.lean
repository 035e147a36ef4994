/- Appending and reslicing: soundness. -/
import Derived.Test.YtfkedbncidahjaaL8
set_option linter.unusedVariables false
set_option linter.unusedSimpArgs false
namespace Go.Lift
open Go

theorem alloc_heap (w : World) (o : Obj) : (w.alloc o).heap = w.heap.push o := rfl

theorem Cells.row {ok : Nat → Prop} {w : World} {t : Ty} {xs : List t.den} {cs : List Value} (h : Cells ok w t xs cs) (pre post : List Value) :
    ∀ i (hi : i < xs.length), t.rd ok w xs[i] (fun j => (pre ++ cs ++ post).toArray[pre.length + i * t.sz + j]?) := by
  intro i hi
  refine Ty.rd_congr _ _ _ _ (fun j hj => ?_) (h.rd i hi)
  have := mul_lt_of hi hj
  rw [List.getElem?_toArray, List.append_assoc, List.getElem?_append_right (by omega), List.getElem?_append_left (by rw [h.len]; omega)]
  congr 1
  omega

theorem appendV_sound {cx : Cx} {φ : Phi} {st : St} {a : Act} {w : World} (R : RelF cx φ st a w) {n : Nat} (hf : FreshN cx st n) {sT xT ty : TypeId} {s x v : SV} {vc : List Prop} {e : Eff} {S X : Value}
    (h : appendV cx.P st.regs sT xT s x n = some (vc, v, e)) (hvc : ∀ p ∈ vc, p) (hs : SVRel st.regs φ (okOf st.regs φ) w s S) (hx : SVRel st.regs φ (okOf st.regs φ) w x X) :
    ∃ V w' φ', (Builtin.append_ #[sT, xT] ty #[S, X]).run cx.P w = .ok V w' ∧ RelF cx φ' { st with regs := e.app st.regs } a w' ∧ SVRel (e.app st.regs) φ' (okOf (e.app st.regs) φ') w' v V := by
  unfold appendV at h
  split at h
  · rename_i e0 hu
    split at h
    · rename_i τ by_ hzt hby
      split at h
      · rename_i ys hsrc
        split at h
        · rename_i hb1
          obtain ⟨i, z, hi, hz, hsz, hzc, ha⟩ := (zty_spec hzt).ex
          have hbi : i.bytes = by_ := by simpa [bytesT, hi] using hby
          subst hbi
          have hxr : ∀ w' : World, w'.heap = w.heap → w'.os = w.os → w'.tape = w.tape → w'.output = w.output → RelF cx φ st a w' := fun w' h1 h2 h3 h4 => R.heap h1 h2 h3 h4
          obtain ⟨hd, hlen, new, hnew, hN⟩ := source_sound R hsrc hx
          have hszz : z.cells.size = τ.sz := by rw [← Array.length_toList, hzc, τ.zero_length]
          rw [← hsz] at hnew
          split at h
          · -- onto nothing
            cases h
            have hroom : ys.length * i.bytes ≤ 140737488355328 := hvc _ (by simp)
            have hS : S = .slice none 0 0 := hs
            subst hS
            obtain ⟨c1, c2⟩ := run_append_cases (P := cx.P) (w := w) (ty := ty) (base := none) (sLen := 0) (sCap := 0) (new := new) (old := []) hu hi hz hd hb1 hlen
              hnew (fun w' _ => by simp [Builtin.firstCells]) (by simpa using hroom)
            rcases Nat.eq_zero_or_pos ys.length with h0 | h0
            · have hys : ys = [] := List.length_eq_zero_iff.1 h0
              subst hys
              have := c1 (by simp)
              refine ⟨_, _, setLoc φ n ⟨none, 0, 0⟩, by simpa [backTo] using this, ?_, ?_⟩
              · exact R.step none n (.row τ []) ⟨none, 0, 0⟩ (fun b hb => by cases hb) (fun b _ _ => rfl) (.inl hf.1) (fun l0 hl => (hf.2 l0 hl).elim)
                  ⟨Nat.le_refl _, rfl⟩ rfl rfl rfl (Nat.le_refl _)
              · exact sl_new (u := τ) (xs := []) (by rw [Eff.app, Eff.app, EffI.app, look_upd, if_pos rfl]) (by simp [setLoc, Loc.addr])
            · obtain ⟨cap, rest, w1, g1, g2, g3, g4, g5, g6, g7⟩ := c2 (by omega)
              have R1 := R.heap g3 g4 g5 g6
              have R2 := R1.new hf (.row τ ys) (([] : List Value).toArray ++ (new.toArray ++ rest.toArray)) e0 (0, 0) 0 cap (fun w' hw' => by
                rw [g3] at hw'
                refine ⟨by simpa using g1, ?_⟩
                rw [g3]
                refine ⟨_, e0, (0, 0), hw', thaw0 _, ?_, ?_⟩
                · have h1 : new.length = ys.length * τ.sz := hN.len
                  simp only [List.size_toArray, Array.size_append, List.length_nil, h1, g2, hszz, Nat.zero_add] at *
                  have := Nat.sub_mul cap ys.length τ.sz
                  have h3 : ys.length * τ.sz ≤ cap * τ.sz := Nat.mul_le_mul_right _ (by simpa using g1)
                  omega
                · have := hN.row [] rest
                  intro k hk
                  have h2 := this k hk
                  refine Ty.rd_mono (fun b o h1 h2 => ⟨h1, by rw [g3]; exact h2⟩) _ _ _ ?_
                  simpa using h2)
              refine ⟨_, _, setLoc φ n ⟨some w1.heap.size, 0, cap⟩, by rw [g7], ?_, ?_⟩
              · exact R2
              · exact sl_new (u := τ) (xs := ys) (by rw [Eff.app, Eff.app, EffI.app, look_upd, if_pos rfl]) (by simp [setLoc, Loc.addr, g3])
          · -- onto a row
            rename_i r
            split at h
            · rename_i τ' xs0 hl
              split at h
              · rename_i xs hcast
                cases h
                obtain ⟨e1, e2⟩ := castTy_some hcast
                cases e1
                have e2 : xs0 = xs := e2
                subst e2
                have hroom : (List.length xs0 + ys.length) * i.bytes ≤ 140737488355328 := hvc _ (by simp)
                have hS := hs _ _ hl
                subst hS
                have hrow : rowOf st.regs (.sl r) = some ⟨τ, xs0⟩ := by simp [rowOf, hl]
                obtain ⟨old, hold, hO⟩ := run_firstCells (P := cx.P) R hrow hs
                rw [← hsz] at hold
                obtain ⟨c1, c2⟩ := run_append_cases (P := cx.P) (w := w) (ty := ty) (base := (φ r).addr) (sLen := xs0.length) (sCap := (φ r).cap) (new := new) (old := old) hu hi hz hd hb1 hlen
                  hnew hold hroom
                have hrg := R.rg r _ hl
                have hnn : new.length = ys.length * τ.sz := hN.len
                rcases Nat.lt_or_ge (φ r).cap (xs0.length + ys.length) with hgt | hle
                · -- it grows
                  obtain ⟨cap, rest, w1, g1, g2, g3, g4, g5, g6, g7⟩ := c2 hgt
                  have R1 := R.heap g3 g4 g5 g6
                  have hOo : old.length = xs0.length * τ.sz := hO.len
                  have R2 := R1.step (w' := w1.alloc (.cells (old.toArray ++ (new.toArray ++ rest.toArray)) e0)) (some r) n (.row τ (List.append xs0 ys)) ⟨some w1.heap.size, 0, cap⟩
                    (fun b hb => .inl (by cases hb; exact Nat.le_refl _)) (fun b hb _ => by rw [alloc_heap, Array.getElem?_push, if_neg (Nat.ne_of_lt hb)]) (.inl hf.1) (fun l0 hl => (hf.2 l0 hl).elim)
                    (by
                      refine ⟨by simpa using g1, ?_⟩
                      refine ⟨_, e0, (0, 0), by rw [alloc_heap, Array.getElem?_push, if_pos rfl], thaw0 _, ?_, ?_⟩
                      · have h3 : (xs0.length + ys.length) * τ.sz ≤ cap * τ.sz := Nat.mul_le_mul_right _ g1
                        have h4 := Nat.sub_mul cap (xs0.length + ys.length) τ.sz
                        rw [hszz] at g2
                        rw [Nat.add_mul] at h3 h4
                        simp only [List.size_toArray, Array.size_append, hOo, hnn, g2]
                        omega
                      · have := (hO.append hN).row [] rest
                        intro k hk
                        have h2 := this k hk
                        refine Ty.rd_mono (fun b o h1 h2 => ⟨h1, by rw [g3]; exact h2⟩) _ _ _ ?_
                        simpa using h2)
                    rfl rfl rfl (by rw [alloc_heap]; simp)
                  refine ⟨_, _, _, by rw [g7], R2, ?_⟩
                  exact sl_new (u := τ) (xs := List.append xs0 ys) (by rw [Eff.app, Eff.app, EffI.app, look_upd, if_pos rfl]) (by simp [setLoc, Loc.addr, g3])
                · -- there is room
                  have hrun := c1 hle
                  cases hbl : (φ r).blk with
                  | none =>
                    have h3 := hrg.2
                    simp only [hbl] at h3
                    have hx0 : xs0 = [] := List.length_eq_zero_iff.1 (by omega)
                    have hy0 : ys = [] := List.length_eq_zero_iff.1 (by omega)
                    have haddr : (φ r).addr = none := by simp [Loc.addr, hbl]
                    rw [haddr] at hrun ⊢
                    refine ⟨_, _, setLoc φ n (φ r), by simpa [backTo] using hrun, ?_, ?_⟩
                    · exact R.step (some r) n (.row τ (List.append xs0 ys)) (φ r) (fun b hb => by rw [hbl] at hb; cases hb) (fun b _ _ => rfl) (.inl hf.1) (fun l0 hl => (hf.2 l0 hl).elim)
                        (by refine ⟨by simp [hx0, hy0], ?_⟩; simp only [hbl]; exact h3) rfl rfl rfl (Nat.le_refl _)
                    · exact sl_new (u := τ) (xs := List.append xs0 ys) (by rw [Eff.app, Eff.app, EffI.app, look_upd, if_pos rfl]) (by simp [setLoc, haddr])
                  | some b =>
                    have h3 := hrg.2
                    simp only [hbl] at h3
                    obtain ⟨cs, ty0, fz, f1, f2, f3, f4⟩ := h3
                    have haddr : (φ r).addr = some ⟨b, (φ r).off, none⟩ := by simp [Loc.addr, hbl]
                    rw [haddr] at hrun ⊢
                    simp only [backTo, add_mk, hsz] at hrun
                    have hfit : (φ r).off + xs0.length * τ.sz + 0 + new.length ≤ cs.size := by
                      have h4 : (xs0.length + ys.length) * τ.sz ≤ (φ r).cap * τ.sz := Nat.mul_le_mul_right _ hle
                      rw [Nat.add_mul] at h4
                      omega
                    obtain ⟨w', k1, k2⟩ := run_storeCells_wrote (P := cx.P) (b := b) (o0 := (φ r).off + xs0.length * τ.sz) new 0 cs w f1 f2 hfit hN.one
                    rw [k1] at hrun
                    simp only [Result.andThen_ok, Nat.add_zero] at hrun k2
                    refine ⟨_, _, setLoc φ n (φ r), hrun, ?_, ?_⟩
                    · refine R.step (w' := w') (some r) n (.row τ (List.append xs0 ys)) (φ r) (fun b0 hb0 => .inr ⟨r, _, rfl, hl, hb0⟩) (fun b0 _ hne => k2.other b0 (fun e0 => hne (by rw [hbl, e0])))
                        (.inl hf.1) (fun l0 hl => (hf.2 l0 hl).elim) ?_ k2.os k2.tape k2.output (by rw [k2.size]; exact Nat.le_refl _)
                      refine ⟨by simpa using hle, ?_⟩
                      simp only [hbl]
                      refine ⟨_, ty0, fz, k2.at_, by rw [size_writeAt]; exact f2, by rw [size_writeAt]; exact f3, ?_⟩
                      intro k hk
                      have hk' : k < xs0.length + ys.length := by simpa using hk
                      by_cases hkx : k < xs0.length
                      · have e : (List.append xs0 ys)[k]'hk = xs0[k] := List.getElem_append_left hkx
                        rw [e]
                        refine Ty.rd_congr _ _ _ _ (fun j hj => ?_) (f4 k hkx)
                        have := mul_lt_of hkx hj
                        rw [get_writeAt _ _ _ _ (by omega), if_neg (by omega)]
                      · have hi' : k - xs0.length < ys.length := by omega
                        have e : (List.append xs0 ys)[k]'hk = ys[k - xs0.length] := List.getElem_append_right (by omega)
                        rw [e]
                        refine Ty.rd_congr _ _ _ _ (fun j hj => ?_) (hN.rd _ hi')
                        have hlt := mul_lt_of hi' hj
                        have hle2 : xs0.length * τ.sz ≤ k * τ.sz := Nat.mul_le_mul_right _ (by omega)
                        have hsub := Nat.sub_mul k xs0.length τ.sz
                        rw [get_writeAt _ _ _ _ (by omega), if_pos (by omega)]
                        congr 1
                        omega
                    · exact sl_new (u := τ) (xs := List.append xs0 ys) (by rw [Eff.app, Eff.app, EffI.app, look_upd, if_pos rfl]) (by simp [setLoc, haddr])
              · cases h
            · cases h
          · cases h
        · cases h
      · cases h
    · cases h
  · cases h

end Go.Lift
