/- Lines for the functions of this seat; merged from texts of their own. -/
import Derived.Test.YtppemehkbnbjlaaLA
import Derived.Laws.Tables
import Derived.Laws.StructEq
set_option linter.unusedVariables false
set_option linter.unusedSimpArgs false
/- Addresses and makers, abstract, and that they tell what the machine does. -/
namespace Go.Lift
open Go

/-! ### paths joined -/
theorem pty_append : ∀ (p : List Step) (t u : Ty) (q : List Step), pty t p = some u → pty t (p ++ q) = pty u q := by
  intro p
  induction p with
  | nil => intro t u q h; simp only [pty, Option.some.injEq] at h; subst h; rfl
  | cons s p ih =>
    intro t u q h
    cases t <;> cases s <;> simp only [pty, List.cons_append] at h ⊢ <;> first | exact ih _ _ _ h | cases h
theorem poff_append : ∀ (p : List Step) (t u : Ty) (q : List Step), pty t p = some u → poff t (p ++ q) = poff t p + poff u q := by
  intro p
  induction p with
  | nil => intro t u q h; simp only [pty, Option.some.injEq] at h; subst h; simp [poff]
  | cons s p ih =>
    intro t u q h
    cases t <;> cases s <;> simp only [pty, List.cons_append, poff] at h ⊢ <;> first | (cases h; done) | (rw [ih _ _ _ h]; done) | (rw [ih _ _ _ h]; omega)
theorem pok_append : ∀ (p : List Step) (t u : Ty) (q : List Step), pty t p = some u → pok t p → pok u q → pok t (p ++ q) := by
  intro p
  induction p with
  | nil => intro t u q h _ hq; simp only [pty, Option.some.injEq] at h; subst h; exact hq
  | cons s p ih =>
    intro t u q h hp hq
    cases t <;> cases s <;> simp only [pty, List.cons_append, pok] at h hp ⊢ <;> try (cases h; done)
    · exact ih _ _ _ h hp hq
    · exact ih _ _ _ h hp hq
    · exact ⟨hp.1, hp.2.1, ih _ _ _ h hp.2.2 hq⟩

def fpath : Nat → List Step
  | 0 => [.fst]
  | k + 1 => .snd :: fpath k
theorem pok_fpath : ∀ (k : Nat) (t u : Ty), pty t (fpath k) = some u → pok t (fpath k) := by
  intro k
  induction k with
  | zero => intro t u h; cases t <;> simp only [fpath, pty, pok] at h ⊢ <;> cases h
  | succ k ih => intro t u h; cases t <;> simp only [fpath, pty, pok] at h ⊢ <;> first | exact ih _ _ h | cases h

/-- Field k of a struct type: its type's number, its offset. -/
def fieldOf (P : Program) (s : TypeId) (k : Nat) : Option (TypeId × Nat) :=
  match P.underlying s with
  | some (.struct fs) => (fs[k]?).map fun f => (f.type, f.offset)
  | _ => none

theorem run_fieldAt {P : Program} {s : TypeId} {k ft off : Nat} {sz : Nat} (h : fieldOf P s k = some (ft, off)) (hs : sizeT P ft = some sz) (h0 : sz ≠ 0) (b o : Nat) (w : World) :
    (Instr.fieldAt s (.pointer (some ⟨b, o, none⟩)) k).run P w = .ok (.pointer (some ⟨b, o + off, none⟩)) w := by
  unfold fieldOf at h
  split at h
  · rename_i fs hu
    rw [Option.map_eq_some_iff] at h
    obtain ⟨f, hf, e⟩ := h
    cases e
    simp [Instr.fieldAt, run_underlying hu, hf, Instr.sureAddr, fieldPlace, run_sizeOf hs, h0, add_mk]
  · cases h

def fieldA (gd : Bool) (P : Program) (rs : Regs) (s : TypeId) (x : SV) (k : Nat) : Option (List Prop × SV × Eff) :=
  match fieldOf P s k with
  | none => none
  | some (ft, off) =>
    match x with
    | .ra t x => match pty t (fpath k) with
      | some u => if sizeT P ft = some u.sz ∧ u.sz ≠ 0 ∧ poff t (fpath k) = off then (pget t x (fpath k) u).map (fun y => ([], .ra u y, [])) else none
      | none => none
    | .addr r p => match look rs r with
      | some g => if rootOb g p = true then (match g with
        | .obox τ o H => match pty τ (fpath k) with
          | some u => if sizeT P ft = some u.sz ∧ u.sz ≠ 0 ∧ poff τ (fpath k) = off then some ([o.isSome = true], .addr r (fpath k), if gd = true then [] else [.set (some r) r (.box τ (o.getD τ.dflt) H)]) else none
          | none => none
        | _ => none) else match ptyR g p with
        | some u0 => match pty u0 (fpath k) with
          | some u => if sizeT P ft = some u.sz ∧ u.sz ≠ 0 ∧ poff u0 (fpath k) = off then some ([], .addr r (p ++ fpath k), []) else none
          | none => none
        | none => none
      | none => none
    | _ => none

/-- An address of a place that is there. -/
theorem addrRel_of {φ : Phi} {r : Nat} {p : List Step} {g : Reg} {u : Ty} {b : Nat} (hp : pokR g p) (ht : ptyR g p = some u) (hc : g.isCells = true) (hb : (φ r).blk = some b) :
    addrRel φ r p (.pointer (some ⟨b, offR (φ r) g p, none⟩)) g := by
  cases g with
  | mp _ _ _ _ => cases hc
  | box t x H => exact ⟨b, hb, hp, rfl⟩
  | obox t o H => exact .inr ⟨b, hp.1, hb, hp.2, rfl⟩
  | row t xs H =>
    cases p with
    | nil => cases ht
    | cons a p =>
      cases a <;> try (cases ht; done)
      rename_i i
      exact ⟨i, p, b, rfl, hp.1, hp.2.1, hp.2.2, hb, rfl⟩

/-- The root of what may be nothing. -/
theorem obox_root {φ : Phi} {r : Nat} {v : Value} {t : Ty} {o : Option t.den} {H : Holes} (h : addrRel φ r [] v (.obox t o H)) : (φ r).blk.isSome = o.isSome ∧ v = .pointer ((φ r).blk.map fun b => ⟨b, 0, none⟩) := by
  rcases h with ⟨_, h1, h2⟩ | ⟨b, h0, h1, _, h3⟩
  · exact ⟨h1, h2⟩
  · exact ⟨by rw [h1, h0]; rfl, by rw [h3, h1]; simp [poff]⟩
/-- A region that may be nothing, and is something, is a box. -/
theorem RelF.open {cx : Cx} {φ : Phi} {st : St} {a : Act} {w : World} (R : RelF cx φ st a w) {r : Nat} {τ : Ty} {o : Option τ.den} {H : Holes} (hl : look st.regs r = some (.obox τ o H)) (ho : o.isSome = true) :
    RelF cx φ { st with regs := upd (without st.regs (some r)) r (some (.box τ (o.getD τ.dflt) H)) } a w := by
  have L := R.lay
  obtain ⟨x, rfl⟩ := Option.isSome_iff_exists.1 ho
  have hpk : ∀ p, pokR (.box τ x H) p → pokR (.obox τ (some x) H) p := fun p hp => by
    cases p <;> exact ⟨rfl, hp⟩
  have hstep := R.step (w' := w) (some r) r (.box τ x H) (φ r) (fun b0 hb0 => .inr ⟨r, _, rfl, hl, hb0⟩) (fun p b _ hb => L.al r _ b hl ⟨p, hb⟩) (fun b hb => L.al r _ b hl hb) (L.inj r _ hl) (fun _ _ _ => rfl)
    (.inr ⟨rfl, .rfl' _, _, hl, rfl⟩) (fun l0 _ hf => by have := hf.1; rw [hl] at this; cases this)
    (by have := L.rg r _ hl; exact this) (fun p m hpm => ⟨(L.ht r _ hl p m hpm).1, fun _ hp gm hgm => ?_⟩) (fun q hq => ?_) (fun p m hpm => ?_) rfl rfl rfl (Nat.le_refl _)
  · have hφ : setLoc φ r (φ r) = φ := setLoc_self φ r
    rw [hφ] at hstep
    exact hstep
  · have := L.hl r _ hl p m hpm (hpk p hp) gm hgm
    cases p <;> exact this
  · obtain ⟨p, m, h1, h2, h3⟩ := L.told r _ hl q hq
    refine ⟨p, m, h1, h2, ?_⟩
    cases p <;> exact h3.2
  · obtain ⟨_, h2, u, h3, h4⟩ := L.ht r _ hl p m hpm
    refine ⟨fun _ => ?_, u, ?_, h4⟩
    · have := h2 rfl
      cases p <;> exact this.2
    · cases p <;> exact h3

theorem fieldA_sound {cx : Cx} {φ : Phi} {st : St} {a : Act} {w : World} (R : RelF cx φ st a w) {gd : Bool} {s : TypeId} {k : Nat} {x v : SV} {vc : List Prop} {e : Eff} {X : Value}
    (h : fieldA gd cx.P st.regs s x k = some (vc, v, e)) (hvc : ∀ p ∈ vc, p) (hx : SVRel st.regs φ (okOf st.regs φ) w x X) :
    ∃ V, (Instr.fieldAt s X k).run cx.P w = .ok V w ∧ RelF cx φ { st with regs := e.app st.regs } a w ∧ SVRel (e.app st.regs) φ (okOf (e.app st.regs) φ) w v V := by
  unfold fieldA at h
  split at h
  · cases h
  · rename_i ft off hfo
    split at h
    · rename_i t x
      split at h
      · rename_i u hp
        split at h
        · rename_i hc
          obtain ⟨hsz, h0, hoff⟩ := hc
          rw [Option.map_eq_some_iff] at h
          obtain ⟨y, hy, e⟩ := h
          cases e
          obtain ⟨b, o, cs, ty, fz, e1, e2, e3, e4⟩ := hx
          subst e1
          have := rd_pget _ _ _ _ _ _ _ e4 (pok_fpath k t u hp) hy
          rw [Sub.none_at] at this
          refine ⟨_, run_fieldAt hfo hsz h0 b o w, R, ⟨b, o + off, cs, ty, fz, rfl, e2, e3, ?_⟩⟩
          rw [hoff] at this
          exact (by simpa only [Nat.add_assoc] using this : u.rd (okOf st.regs φ) w Sub.none y (fun j => cs[o + off + j]?))
        · cases h
      · cases h
    · rename_i r p
      split at h
      · rename_i g hl
        split at h
        · rename_i hob
          split at h
          · rename_i τ o H
            split at h
            · rename_i u hp
              split at h
              · rename_i hc
                obtain ⟨hsz, h0, hoff⟩ := hc
                cases h
                have ho : o.isSome = true := hvc _ (by simp)
                have R1 := R.open hl ho
                have hb : ∃ b, (φ r).blk = some b ∧ X = .pointer (some ⟨b, 0, none⟩) := by
                  have hp0 : p = [] := by cases p with
                    | nil => rfl
                    | cons c p => cases hob
                  subst hp0
                  rcases hx _ hl with ⟨_, e2, e3⟩ | ⟨b, _, e1, _, e3⟩
                  · rw [ho] at e2
                    obtain ⟨b, hb⟩ := Option.isSome_iff_exists.1 e2
                    exact ⟨b, hb, by rw [e3, hb]; rfl⟩
                  · exact ⟨b, e1, by rw [e3]; simp [poff]⟩
                obtain ⟨b, hb, e3'⟩ := hb
                subst e3'
                cases gd with
                | true =>
                  refine ⟨_, run_fieldAt hfo hsz h0 _ _ w, R, ?_⟩
                  intro g hg
                  have hg' : look st.regs r = some g := hg
                  rw [hl] at hg'; cases hg'
                  exact .inr ⟨b, ho, hb, pok_fpath k τ u hp, by rw [hoff, Nat.zero_add]⟩
                | false =>
                refine ⟨_, run_fieldAt hfo hsz h0 _ _ w, R1, ?_⟩
                intro g hg
                have hg' : look (upd (without st.regs (some r)) r (some (.box τ (o.getD τ.dflt) H))) r = some g := hg
                rw [look_upd, if_pos rfl] at hg'
                cases hg'
                exact ⟨b, hb, pok_fpath k τ u hp, by rw [hoff, Nat.zero_add]⟩
              · cases h
            · cases h
          · cases h
        · rename_i hob
          split at h
          · rename_i u0 hp0
            split at h
            · rename_i u hp
              split at h
              · rename_i hc
                obtain ⟨hsz, h0, hoff⟩ := hc
                cases h
                obtain ⟨hpok, hcl, b, e1, e2⟩ := addr_place (hx _ hl) (rootOb_spec (by simpa using hob))
                subst e2
                refine ⟨_, run_fieldAt hfo hsz h0 _ _ w, R, ?_⟩
                intro g' hg
                have hg' : look st.regs r = some g' := hg
                rw [hl] at hg'; cases hg'
                have := addrRel_of (φ := φ) (r := r) ((pokR_app hcl hp0).2 ⟨hpok, pok_fpath k u0 u hp⟩) ((ptyR_app hcl hp0).trans hp) hcl e1
                rwa [offR_app hcl hp0, hoff] at this
              · cases h
            · cases h
          · cases h
      · cases h
    · cases h

/-! ### places of arrays and slices -/
def indexA (P : Program) (rs : Regs) (t : TypeId) (x i : SV) : Option (List Prop × SV) :=
  match i with
  | .val (.int _) i =>
    match P.underlying t, x with
    | some (.slice e), .sl r => match look rs r with
      | some (.row τ xs _) => if sizeT P e = some τ.sz then some ([0 ≤ i, i < (xs.length : Int)], .addr r [.idx i]) else none
      | _ => none
    | some (.slice e), .slv r lo hi => match look rs r with
      | some (.row τ _ _) => if sizeT P e = some τ.sz then some ([0 ≤ i, i < hi - lo], .addr r [.idx (lo + i)]) else none
      | _ => none
    | some (.slice e), .val (.ro τ) xs => if sizeT P e = some τ.sz then some ([0 ≤ i, i < (List.length xs : Int)], .ra τ (List.getD xs i.toNat τ.dflt)) else none
    | some (.array n e), .addr r p => match look rs r with
      | some g => if rootOb g p = true then none else match ptyR g p with
        | some (.arr m τ') => if sizeT P e = some τ'.sz ∧ n = m then some ([0 ≤ i, i < (m : Int)], .addr r (p ++ [.idx i])) else none
        | _ => none
      | none => none
    | some (.array n e), .ra (.arr m τ) xs => if sizeT P e = some τ.sz ∧ n = m then some ([0 ≤ i, i < (m : Int)], .ra τ (List.getD xs i.toNat τ.dflt)) else none
    | _, _ => none
  | _ => none

theorem run_indexAt_sl {P : Program} {t e : TypeId} {sz : Nat} (hu : P.underlying t = some (.slice e)) (hs : sizeT P e = some sz) (b o len cap : Nat) (k : IntKind) (i : Int) (h0 : 0 ≤ i) (h1 : i < (len : Int)) (w : World) :
    (Instr.indexAt t (.slice (some ⟨b, o, none⟩) len cap) (.int k i)).run P w = .ok (.pointer (some ⟨b, o + i.toNat * sz, none⟩)) w := by
  simp [Instr.indexAt, run_underlying hu, asIntOf, h0, h1, run_sizeOf hs, add_mk]
theorem run_indexAt_arr {P : Program} {t e : TypeId} {n sz : Nat} (hu : P.underlying t = some (.array n e)) (hs : sizeT P e = some sz) (b o : Nat) (k : IntKind) (i : Int) (h0 : 0 ≤ i) (h1 : i < (n : Int)) (w : World) :
    (Instr.indexAt t (.pointer (some ⟨b, o, none⟩)) (.int k i)).run P w = .ok (.pointer (some ⟨b, o + i.toNat * sz, none⟩)) w := by
  simp [Instr.indexAt, run_underlying hu, asIntOf, h0, h1, run_sizeOf hs, add_mk, Instr.sureAddr]


theorem indexA_sound {cx : Cx} {φ : Phi} {st : St} {a : Act} {w : World} (R : RelF cx φ st a w) {t : TypeId} {x i v : SV} {vc : List Prop} {X I : Value}
    (h : indexA cx.P st.regs t x i = some (vc, v)) (hvc : ∀ p ∈ vc, p) (hx : SVRel st.regs φ (okOf st.regs φ) w x X) (hi : SVRel st.regs φ (okOf st.regs φ) w i I) :
    ∃ V, (Instr.indexAt t X I).run cx.P w = .ok V w ∧ SVRel st.regs φ (okOf st.regs φ) w v V := by
  unfold indexA at h
  split at h
  · rename_i k n
    have eI : I = .int k n := VRel.int_eq hi
    subst eI
    split at h
    · rename_i e r hu
      split at h
      · rename_i τ xs H hl
        split at h
        · rename_i hs
          cases h
          have h0 : @LE.le Int _ 0 n := hvc _ (by simp)
          have h1 : @LT.lt Int _ n (xs.length : Int) := hvc _ (by simp)
          have hX := hx _ _ _ hl
          have h2 := (R.lay.rg r _ hl)
          cases hbl : ((φ r) []).blk with
          | none =>
            have h3 := h2.2
            simp only [hbl] at h3
            have h4 : xs.length ≤ ((φ r) []).cap := h2.1
            omega
          | some b =>
            have hX' : X = .slice (some ⟨b, (φ r).off, none⟩) xs.length (φ r).cap := by rw [hX]; simp [Sub.addr, Sub.blk, hbl]
            subst hX'
            refine ⟨_, run_indexAt_sl hu hs _ _ _ _ k n h0 h1 w, ?_⟩
            intro g hg
            rw [hl] at hg; cases hg
            exact ⟨n, [], b, rfl, h0, h1, by simp [pok], hbl, by simp [poff]⟩
        · cases h
      · cases h
    · rename_i e r lo hi hu
      split at h
      · rename_i τ xs H hl
        split at h
        · rename_i hs
          cases h
          have h0 : @LE.le Int _ 0 n := hvc _ (by simp)
          have h1 : @LT.lt Int _ n (hi - lo) := hvc _ (by simp)
          obtain ⟨k0, k1, k2, o, cap, hX, k3, k4, k5⟩ := hx _ _ _ hl
          have ho : o = (φ r).off + lo.toNat * τ.sz := by
            rcases k5 with k5 | ⟨k5, _⟩
            · exact k5
            · omega
          have h2 := R.lay.rg r _ hl
          cases hbl : ((φ r) []).blk with
          | none =>
            have h3 := h2.2
            simp only [hbl] at h3
            have h4 : (φ r).cap = ((φ r) []).cap := rfl
            omega
          | some b =>
            have hX' : X = .slice (some ⟨b, o, none⟩) (hi - lo).toNat cap := by rw [hX]; simp [Sub.blk, hbl]
            subst hX'
            refine ⟨_, run_indexAt_sl hu hs _ _ _ _ k n h0 (by omega) w, ?_⟩
            intro g hg
            rw [hl] at hg; cases hg
            refine ⟨lo + n, [], b, rfl, by omega, by omega, by simp [pok], hbl, ?_⟩
            have e1 : (lo + n).toNat = lo.toNat + n.toNat := by omega
            rw [e1, ho, Nat.add_mul]
            simp only [poff]
            congr 3
            omega
        · cases h
      · cases h
    · rename_i e τ xs hu
      split at h
      · rename_i hs
        cases h
        have h0 : @LE.le Int _ 0 n := hvc _ (by simp)
        have h1 : @LT.lt Int _ n (List.length xs : Int) := hvc _ (by simp)
        have hV : VRel _ _ _ _ _ := hx
        obtain ⟨a0, cap, g0, g1, g2⟩ := hV.1
        rw [hV.cells_one rfl] at g0
        have hX : X = .slice a0 (List.length xs) cap := by simpa using g0
        subst hX
        rcases g2 with g2 | ⟨b, off, cs, ty, fz, f1, f2, f3, f4⟩
        · rw [g2] at h1; simp at h1; omega
        · subst f1
          have hi' : n.toNat < List.length xs := by omega
          refine ⟨_, run_indexAt_sl hu hs _ _ _ _ k n h0 h1 w, ⟨b, off + n.toNat * τ.sz, cs, ty, fz, rfl, f2, f3, ?_⟩⟩
          have e : List.getD xs n.toNat τ.dflt = xs[n.toNat] := by simp [List.getD, List.getElem?_eq_getElem hi']
          rw [e]
          exact f4 n.toNat hi'
      · cases h
    · rename_i m e r p hu
      split at h
      · rename_i g hl
        split at h
        · cases h
        · rename_i hob
          split at h
          · rename_i m' τ' hp
            split at h
            · rename_i hc
              obtain ⟨hs, rfl⟩ := hc
              cases h
              have h0 : @LE.le Int _ 0 n := hvc _ (by simp)
              have h1 : @LT.lt Int _ n (m : Int) := hvc _ (by simp)
              obtain ⟨hpok, hcl, b, e1, e2⟩ := addr_place (hx _ hl) (rootOb_spec (by simpa using hob))
              subst e2
              refine ⟨_, run_indexAt_arr hu hs _ _ k n h0 h1 w, ?_⟩
              intro g' hg
              rw [hl] at hg; cases hg
              have := addrRel_of (φ := φ) (r := r) (p := p ++ [.idx n]) (u := τ') ((pokR_app hcl hp).2 ⟨hpok, (show pok (.arr m τ') [.idx n] from ⟨h0, h1, by simp [pok]⟩)⟩) ((ptyR_app hcl hp).trans (by simp [pty])) hcl e1
              rw [offR_app hcl hp] at this
              simpa [poff] using this
            · cases h
          · cases h
      · cases h
    · rename_i m e m' τ xs hu
      split at h
      · rename_i hc
        obtain ⟨hs, rfl⟩ := hc
        cases h
        have h0 : @LE.le Int _ 0 n := hvc _ (by simp)
        have h1 : @LT.lt Int _ n (m : Int) := hvc _ (by simp)
        obtain ⟨b, o, cs, ty, fz, e1, e2, e3, e4⟩ := hx
        subst e1
        have hl := e4.1
        have hi' : n.toNat < List.length xs := by omega
        have e : List.getD xs n.toNat τ.dflt = xs[n.toNat] := by simp [List.getD, List.getElem?_eq_getElem hi']
        refine ⟨_, run_indexAt_arr hu hs _ _ k n h0 h1 w, ⟨b, o + n.toNat * τ.sz, cs, ty, fz, rfl, e2, e3, ?_⟩⟩
        rw [e]
        have := e4.2 n.toNat hi'
        rw [show Sub.none.at [Step.idx ((n.toNat : Nat) : Int)] = Sub.none from rfl] at this
        simpa only [Nat.add_assoc] using this
      · cases h
    · cases h
  · cases h

end Go.Lift
/- What is made: variables, rows, structs; abstract, and that they tell what the machine does. -/
namespace Go.Lift
open Go

/-! ### zero values -/
def Ty.zero : Ty → List Value
  | .int k => [.int k 0]
  | .bool => [.bool false]
  | .str => [.string ByteArray.empty]
  | .unit => []
  | .ro _ => [.slice none 0 0]
  | .pair a b => a.zero ++ b.zero
  | .arr n t => (List.replicate n t.zero).flatten
  | .own _ => [.slice none 0 0]
  | .ptr _ => [.pointer none]
  | .map _ _ => [.map none]
theorem Ty.zero_length : ∀ (t : Ty), t.zero.length = t.sz := by
  intro t
  induction t with
  | pair a b iha ihb => simp [Ty.zero, Ty.sz, iha, ihb]
  | arr n t ih => simp [Ty.zero, Ty.sz, List.length_flatten, ih]
  | _ => rfl
theorem flatten_get {l : List Value} : ∀ (n i j : Nat), i < n → j < l.length → (List.replicate n l).flatten[i * l.length + j]? = l[j]? := by
  intro n
  induction n with
  | zero => intro i j h; omega
  | succ n ih =>
    intro i j hi hj
    rw [List.replicate_succ, List.flatten_cons]
    cases i with
    | zero => rw [Nat.zero_mul, Nat.zero_add, List.getElem?_append_left hj]
    | succ i =>
      rw [List.getElem?_append_right (by rw [Nat.add_mul]; omega)]
      rw [show (i + 1) * l.length + j - l.length = i * l.length + j from by rw [Nat.add_mul]; omega]
      exact ih i j (by omega) hj
theorem Ty.rd_zero (ok : Nat → Prop) (w : World) : ∀ (t : Ty), t.rd ok w Sub.none t.dflt (fun j => t.zero[j]?) := by
  intro t
  induction t with
  | int k => rfl
  | bool => rfl
  | str => rfl
  | unit => trivial
  | ro t ih => exact ⟨none, 0, rfl, Nat.le_refl _, .inl rfl⟩
  | own t ih => exact fun _ => ⟨rfl, Nat.le_refl _, rfl⟩
  | ptr t ih => exact fun _ => ⟨rfl, rfl⟩
  | map k v ihk ihv => exact fun _ => ⟨rfl, rfl⟩
  | pair a b iha ihb =>
    refine ⟨Ty.rd_congr _ _ _ _ _ (fun j hj => ?_) iha, Ty.rd_congr _ _ _ _ _ (fun j hj => ?_) ihb⟩
    · simp only [Ty.zero]
      rw [List.getElem?_append_left (by rw [a.zero_length]; exact hj)]
    · simp only [Ty.zero]
      rw [List.getElem?_append_right (by rw [a.zero_length]; omega), a.zero_length, Nat.add_sub_cancel_left]
  | arr n t ih =>
    refine ⟨by simp [Ty.dflt], fun i hi => ?_⟩
    have hi' : i < n := by simpa [Ty.dflt] using hi
    have e : (Ty.arr n t).dflt[i]'hi = t.dflt := by simp [Ty.dflt]
    rw [e]
    refine Ty.rd_congr _ _ _ _ _ (fun j hj => ?_) ih
    simp only [Ty.zero]
    have := flatten_get (l := t.zero) n i j hi' (by rw [t.zero_length]; exact hj)
    rw [t.zero_length] at this
    exact this.symm

def isZ : Value → Value → Bool
  | .int k 0, .int k' 0 => k == k'
  | .bool false, .bool false => true
  | .string s, .string s' => s.data.toList.isEmpty && s'.data.toList.isEmpty
  | .slice none 0 0, .slice none 0 0 => true
  | .pointer none, .pointer none => true
  | .map none, .map none => true
  | _, _ => false
theorem isZ_eq {u v : Value} (h : isZ u v = true) : u = v := by
  unfold isZ at h
  split at h
  · simp at h; subst h; rfl
  · rfl
  · rename_i s s'
    simp at h
    cases s; cases s'
    simp at h
    simp [h.1, h.2]
  · rfl
  · rfl
  · rfl
  · cases h
def allZ : List Value → List Value → Bool
  | [], [] => true
  | u :: us, v :: vs => isZ u v && allZ us vs
  | _, _ => false
theorem allZ_eq : ∀ {us vs : List Value}, allZ us vs = true → us = vs
  | [], [], _ => rfl
  | u :: us, v :: vs, h => by
    simp only [allZ, Bool.and_eq_true] at h
    rw [isZ_eq h.1, allZ_eq h.2]
  | [], _ :: _, h => by simp [allZ] at h
  | _ :: _, [], h => by simp [allZ] at h

/-- The shape of a type of the program, slices as what is not written. -/
def tyFieldsRo (f : TypeId → Option Ty) : List Field → Option Ty
  | [] => some .unit
  | x :: xs => match f x.type, tyFieldsRo f xs with
    | some a, some b => some (.pair a b)
    | _, _ => none
def tyRo (P : Program) : Nat → TypeId → Option Ty
  | 0, _ => none
  | n + 1, t => match P.underlying t with
    | some (.int k) => some (.int k)
    | some .bool => some .bool
    | some .string => some .str
    | some (.slice e) => (tyRo P n e).map Ty.ro
    | some (.array m e) => (tyRo P n e).map (Ty.arr m)
    | some (.struct fs) => tyFieldsRo (tyRo P n) fs.toList
    | _ => none
/-- The fields that are slices of the struct's own. -/
def ownF (x : Field) (rest : List Field) : Bool :=
  (match rest with
    | y :: _ => !(y.name == "Level")
    | [] => true) && ["again", "data", "there", "l", "L", "Loans", "Mark", "order", "level", "Level", "found", "Gaps", "grants", "told", "Grants", "Told", "soft", "Points", "Missing"].contains x.name
def isSl (P : Program) (t : TypeId) : Bool :=
  match P.underlying t with
  | some (.slice _) => true
  | _ => false
/-- The slices that lie in a slice as its own. -/
def ownE (P : Program) (e : TypeId) : Bool :=
  match P.underlying e with
  | some (.slice e2) => match P.underlying e2 with
    | some (.int .i64) => true
    | some (.struct _) => true
    | _ => false
  | _ => false
def toOwn : Ty → Ty
  | .ro t => .own t
  | t => t
/-- The shape of a type of the program. -/
def tyFields (P : Program) (f : TypeId → Option Ty) : List Field → Option Ty
  | [] => some .unit
  | x :: xs => match f x.type, tyFields P f xs with
    | some a, some b => some (.pair (if isSl P x.type && ownF x xs then toOwn a else a) b)
    | _, _ => none
def tyOf (P : Program) : Nat → TypeId → Option Ty
  | 0, _ => none
  | n + 1, t => match P.underlying t with
    | some (.int k) => some (.int k)
    | some .bool => some .bool
    | some .string => some .str
    | some (.slice e) => (tyOf P n e).map fun τ => Ty.ro (if ownE P e then toOwn τ else τ)
    | some (.array m e) => (tyOf P n e).map (Ty.arr m)
    | some (.struct fs) => tyFields P (tyOf P n) fs.toList
    | some (.pointer e) => (tyOf P n e).map Ty.ptr
    | some (.map k v) => match tyOf P n k, tyOf P n v with
      | some a, some b => some (.map a b)
      | _, _ => none
    | _ => none
/-- The shape of a slice's elements. -/
def elOf (P : Program) (e : TypeId) : Option Ty := (tyOf P 12 e).map fun τ => if ownE P e then toOwn τ else τ

/-- The type's shape, if the program's zero value is its zero. -/
def zOf (P : Program) (t : TypeId) (r : Option Ty) : Option Ty :=
  match r with
  | none => none
  | some u => match P.info? t with
    | none => none
    | some i => match i.zero with
      | none => none
      | some z => if i.size = u.sz ∧ allZ u.zero z.cells.toList = true ∧ Value.isAgg z = u.agg then some u else none
def zty (P : Program) (t : TypeId) : Option Ty := zOf P t (tyOf P 12 t)
def zel (P : Program) (e : TypeId) : Option Ty := zOf P e (elOf P e)
structure ZTy (P : Program) (t : TypeId) (u : Ty) : Prop where
  ex : ∃ i z, P.info? t = some i ∧ i.zero = some z ∧ i.size = u.sz ∧ z.cells.toList = u.zero ∧ Value.isAgg z = u.agg
theorem zOf_spec {P : Program} {t : TypeId} {u : Ty} {r : Option Ty} (h : zOf P t r = some u) : ZTy P t u := by
  unfold zOf at h
  split at h
  · cases h
  · rename_i u' _
    split at h
    · cases h
    · rename_i i hi
      split at h
      · cases h
      · rename_i z hz
        split at h
        · rename_i hc
          cases h
          exact ⟨i, z, hi, hz, hc.1, (allZ_eq hc.2.1).symm, hc.2.2⟩
        · cases h
theorem zty_spec {P : Program} {t : TypeId} {u : Ty} (h : zty P t = some u) : ZTy P t u := zOf_spec h
theorem zel_spec {P : Program} {t : TypeId} {u : Ty} (h : zel P t = some u) : ZTy P t u := zOf_spec h
theorem ZTy.size {P : Program} {t : TypeId} {u : Ty} (h : ZTy P t u) : sizeT P t = some u.sz := by
  obtain ⟨i, z, hi, _, hs, _⟩ := h.ex
  simp [sizeT, hi, hs]
theorem ZTy.run {P : Program} {t : TypeId} {u : Ty} (h : ZTy P t u) (ok : Nat → Prop) (w w' : World) : ∃ z, (zeroValue t).run P w = .ok z w ∧ VRel ok w' u u.dflt z ∧ z.cells.toList = u.zero := by
  obtain ⟨i, z, hi, hz, hs, hc, ha⟩ := h.ex
  refine ⟨z, by simp [zeroValue, typeInfo, hi, hz], ⟨?_, ?_, ha⟩, hc⟩
  · have := Ty.rd_zero ok w' u
    rw [← hc] at this
    simpa using this
  · rw [← Array.length_toList, hc, u.zero_length]

/-- One block, some places in it open. -/
def mkSubH (blk : Option Nat) (off cap : Nat) (H : Holes) : Sub := fun p => match p with
  | [] => ⟨blk, off, cap, true⟩
  | p => hsub H p
theorem mkSubH_get {bl : Option Nat} {o c : Nat} {H : Holes} {p : List Step} {b : Nat} (h : (mkSubH bl o c H p).blk = some b) : p = [] ∧ bl = some b := by
  cases p with
  | nil => exact ⟨rfl, h⟩
  | cons a p => cases h
theorem mkSubH_hd {bl : Option Nat} {o c : Nat} {H : Holes} {p : List Step} (h : (mkSubH bl o c H p).hd = false) : ∃ m, (p, m) ∈ H := by
  cases p with
  | nil => cases h
  | cons a p => exact hsub_hd h
/-- A new block, a new region. -/
theorem RelF.newH {cx : Cx} {φ : Phi} {st : St} {a : Act} {w : World} (R : RelF cx φ st a w) {n : Nat} (hf : FreshN cx st n) (g : Reg) (o : Obj) (off cap : Nat) (H : Holes)
    (hat : ∀ w', w'.heap[w.heap.size]? = some o → g.at2 (okOf st.regs φ) w w' (mkSubH (some w.heap.size) off cap H))
    (hH : ∀ q m, (q, m) ∈ H → ∃ p, q = g.base ++ p ∧ (p, m) ∈ g.holes)
    (hhl : ∀ p m, (p, m) ∈ g.holes → m ≠ n ∧ pokR g p ∧ (∃ u, ptyR g p = some u ∧ u.link = true) ∧ ∀ w', w'.heap[w.heap.size]? = some o → ∀ gm, look st.regs m = some gm → cellR w' (mkSubH (some w.heap.size) off cap H) g p = some (hdr (φ m) gm)) :
    RelF cx (setLoc φ n (mkSubH (some w.heap.size) off cap H)) { st with regs := upd st.regs n (some g) } a { w with heap := w.heap.push o } :=
  R.step none n g (mkSubH (some w.heap.size) off cap H) (fun b ⟨p, hb⟩ => .inl (by cases (mkSubH_get hb).2; exact Nat.le_refl _))
    (fun p b hp hb => (hp (mkSubH_get hb).1).elim) (fun b ⟨p, hb⟩ => by cases (mkSubH_get hb).2; simp) (fun p q b h1 h2 => (mkSubH_get h1).1.trans (mkSubH_get h2).1.symm)
    (fun b hb _ => by simp [Array.getElem?_push, Nat.ne_of_lt hb]) (.inl hf.1) (fun l0 hl => (hf.2 l0 hl).elim)
    (hat _ (by simp)) (fun p m hpm => ⟨(hhl p m hpm).1, fun _ _ gm hgm => (hhl p m hpm).2.2.2 _ (by simp) gm hgm⟩)
    (fun q hq => by
      obtain ⟨m, hm⟩ := mkSubH_hd hq
      obtain ⟨p, e, hp⟩ := hH q m hm
      exact ⟨p, m, hp, e, (hhl p m hp).2.1⟩)
    (fun p m hpm => ⟨fun _ => (hhl p m hpm).2.1, (hhl p m hpm).2.2.1⟩) rfl rfl rfl (by simp)
theorem mkSubH_nil (bl : Option Nat) (o c : Nat) : mkSubH bl o c [] = mkSub bl o c := by
  funext p
  cases p with
  | nil => rfl
  | cons a p => simp [mkSubH, hsub, mkSub]
theorem RelF.new {cx : Cx} {φ : Phi} {st : St} {a : Act} {w : World} (R : RelF cx φ st a w) {n : Nat} (hf : FreshN cx st n) (g : Reg) (hg : g.holes = []) (cs : Array Value) (ty : TypeId) (fz : Nat × Nat) (off cap : Nat)
    (hat : ∀ w', w'.heap[w.heap.size]? = some (.cells cs ty fz) → g.at2 (okOf st.regs φ) w w' (mkSub (some w.heap.size) off cap)) :
    RelF cx (setLoc φ n (mkSub (some w.heap.size) off cap)) { st with regs := upd st.regs n (some g) } a { w with heap := w.heap.push (.cells cs ty fz) } := by
  have := R.newH hf g (.cells cs ty fz) off cap [] (fun w' h => by rw [mkSubH_nil]; exact hat w' h) (fun q m h => by cases h) (fun p m h => by rw [hg] at h; cases h)
  rwa [mkSubH_nil] at this

theorem thaw0 (n : Nat) : Thawed (0, 0) n := by intro i _; simp

/-! ### a variable -/
def boxV (x : SV) (n : Nat) : Option (SV × Eff) :=
  match x with
  | .val u y => some (.addr n [], [.set none n (.box u y [])])
  | .nst u y H => if (H.all fun q => !(Nat.beq q.2 n)) = true ∧ linkHs u H = true then some (.addr n [], [.set none n (.box u y H)]) else none
  | _ => none
theorem hsub_map (a : Step) (H : Holes) (q : List Step) : hsub (H.map fun x => (a :: x.1, x.2)) (a :: q) = hsub H q := by
  simp only [hsub, List.any_map, Function.comp_def, List.cons.injEq, true_and]
theorem new_box {cx : Cx} {φ : Phi} {st : St} {a : Act} {w : World} (R : RelF cx φ st a w) {n : Nat} (hf : FreshN cx st n) {u : Ty} {y : u.den} {v : Value} (ty : TypeId) {H : Holes}
    (hv : NRel st.regs φ (okOf st.regs φ) w u y H v) (hn : ∀ p m, (p, m) ∈ H → m ≠ n) (hlk : linkHs u H = true) :
    RelF cx (setLoc φ n (mkSubH (some w.heap.size) 0 0 (H.map fun x => (.deref :: x.1, x.2)))) { st with regs := upd st.regs n (some (.box u y H)) } a { w with heap := w.heap.push (.cells v.cells ty) } := by
  obtain ⟨v1, v2, v3, v4, v5⟩ := hv
  refine R.newH hf (.box u y H) (.cells v.cells ty) 0 0 _ (fun w' hw' => ⟨rfl, w.heap.size, v.cells, ty, (0, 0), rfl, hw', thaw0 _, v2, ?_⟩) (fun q m h => ?_) (fun p m hpm => ⟨hn p m hpm, (v5 p m hpm).1, ?_, fun w' hw' gm hgm => ?_⟩)
  · have e : (mkSubH (some w.heap.size) 0 0 (H.map fun x => (Step.deref :: x.1, x.2))).at [.deref] = hsub H := by
      funext q
      exact hsub_map .deref H q
    rw [e]; exact v1
  · obtain ⟨⟨p, m'⟩, h1, h2⟩ := List.mem_map.1 h
    simp only [Prod.mk.injEq] at h2
    obtain ⟨rfl, rfl⟩ := h2
    exact ⟨p, rfl, h1⟩
  · have := List.all_eq_true.1 hlk _ hpm
    cases hp : pty u p with
    | none => simp [hp] at this
    | some v0 => simp only [hp] at this; exact ⟨v0, hp, this⟩
  · have h3 := (v5 p m hpm).2 gm hgm
    have e : cellR w' (mkSubH (some w.heap.size) 0 0 (H.map fun x => (Step.deref :: x.1, x.2))) (.box u y H) p = cellAt w' (some w.heap.size) (poff u p) := by cases p <;> rfl
    rw [e]
    simpa [cellAt, hw'] using h3
theorem addr_new {φ : Phi} {rs : Regs} {n : Nat} {b : Nat} {ok : Nat → Prop} {w : World} {u : Ty} {y : u.den} {H : Holes} (hφ : (φ n).blk = some b) (hl : look rs n = some (.box u y H)) :
    SVRel rs φ ok w (.addr n []) (.pointer (some ⟨b, 0, none⟩)) := by
  intro g hg
  rw [hl] at hg; cases hg
  exact ⟨b, hφ, by simp [pok], by simp [poff]⟩
theorem boxV_sound {cx : Cx} {φ : Phi} {st : St} {a : Act} {w : World} (R : RelF cx φ st a w) {n : Nat} (hf : FreshN cx st n) {t : TypeId} {x v : SV} {e : Eff} {X : Value}
    (h : boxV x n = some (v, e)) (hx : SVRel st.regs φ (okOf st.regs φ) w x X) :
    ∃ V w' φ', (Instr.box t X).run cx.P w = .ok V w' ∧ RelF cx φ' { st with regs := e.app st.regs } a w' ∧ SVRel (e.app st.regs) φ' (okOf (e.app st.regs) φ') w' v V := by
  unfold boxV at h
  split at h
  · rename_i u y
    cases h
    have R1 := new_box R hf t (.of_val hx) (fun p m h => by cases h) rfl
    exact ⟨.pointer (some ⟨w.heap.size, 0, none⟩), _, _, by simp [Instr.box, newVar, newRow], R1, addr_new (u := u) (y := y) (by rw [setLoc_same]; rfl) (by rw [Eff.app, Eff.app, EffI.app, look_upd, if_pos rfl])⟩
  · rename_i u y H
    split at h
    · rename_i hc
      cases h
      have R1 := new_box R hf t hx (fun p m hpm e => by
        have := List.all_eq_true.1 hc.1 _ hpm
        subst e
        simp at this) hc.2
      exact ⟨.pointer (some ⟨w.heap.size, 0, none⟩), _, _, by simp [Instr.box, newVar, newRow], R1, addr_new (u := u) (y := y) (by rw [setLoc_same]; rfl) (by rw [Eff.app, Eff.app, EffI.app, look_upd, if_pos rfl])⟩
    · cases h
  · cases h

def allocV (P : Program) (t : TypeId) (n : Nat) : Option (SV × Eff) :=
  match zty P t with
  | some u => some (.addr n [], [.set none n (.box u u.dflt [])])
  | none => none
theorem allocV_sound {cx : Cx} {φ : Phi} {st : St} {a : Act} {w : World} (R : RelF cx φ st a w) {n : Nat} (hf : FreshN cx st n) {t : TypeId} {v : SV} {e : Eff}
    (h : allocV cx.P t n = some (v, e)) :
    ∃ V w' φ', (Instr.alloc t true (.tuple #[])).run cx.P w = .ok V w' ∧ RelF cx φ' { st with regs := e.app st.regs } a w' ∧ SVRel (e.app st.regs) φ' (okOf (e.app st.regs) φ') w' v V := by
  unfold allocV at h
  split at h
  · rename_i u hu
    cases h
    obtain ⟨z, hz, hv, _⟩ := (zty_spec hu).run (okOf st.regs φ) w w
    have R1 := new_box R hf t (.of_val hv) (fun p m h => by cases h) rfl
    exact ⟨.pointer (some ⟨w.heap.size, 0, none⟩), _, _, by simp [Instr.alloc, hz, newVar, newRow], R1, addr_new (u := u) (y := u.dflt) (by rw [setLoc_same]; rfl) (by rw [Eff.app, Eff.app, EffI.app, look_upd, if_pos rfl])⟩
  · cases h

/-! ### a row -/
theorem sl_new {φ : Phi} {rs : Regs} {n : Nat} {ok : Nat → Prop} {w : World} {u : Ty} {xs : List u.den} {H : Holes} {v : Value} (hl : look rs n = some (.row u xs H))
    (hv : v = .slice (φ n).addr xs.length (φ n).cap) : SVRel rs φ ok w (.sl n) v := by
  intro t ys H' hg
  rw [hl] at hg; cases hg
  exact hv

def makeV (P : Program) (t : TypeId) (l c : SV) (n : Nat) : Option (List Prop × SV × Eff) :=
  match P.underlying t, l, c with
  | some (.slice e), .val (.int _) l, .val (.int _) c => match zel P e, bytesT P e with
    | some u, some by_ => if 1 ≤ by_ then some ([0 ≤ l, l ≤ c, (by_ : Int) * c ≤ 281474976710656], .sl n, [.set none n (.row u (List.replicate l.toNat u.dflt) [])]) else none
    | _, _ => none
  | _, _, _ => none
theorem made_get (z : List Value) (n j : Nat) (hz : 0 < z.length) (hj : j < n) : (madeCells z.toArray n)[j]? = z[j % z.length]? := by
  have h1 : j % z.length < z.length := Nat.mod_lt _ hz
  simp [madeCells, hj, h1]
theorem makeV_sound {cx : Cx} {φ : Phi} {st : St} {a : Act} {w : World} (R : RelF cx φ st a w) {n : Nat} (hf : FreshN cx st n) {t : TypeId} {l c v : SV} {vc : List Prop} {e : Eff} {L C : Value}
    (h : makeV cx.P t l c n = some (vc, v, e)) (hvc : ∀ p ∈ vc, p) (hl : SVRel st.regs φ (okOf st.regs φ) w l L) (hc : SVRel st.regs φ (okOf st.regs φ) w c C) :
    ∃ V w' φ', (Instr.makeSlice t L C).run cx.P w = .ok V w' ∧ RelF cx φ' { st with regs := e.app st.regs } a w' ∧ SVRel (e.app st.regs) φ' (okOf (e.app st.regs) φ') w' v V := by
  unfold makeV at h
  split at h
  · rename_i e0 k1 l k2 c hu
    split at h
    · rename_i u by_ hzt hby
      split at h
      · rename_i hb1
        cases h
        have eL : L = .int k1 l := VRel.int_eq hl
        have eC : C = .int k2 c := VRel.int_eq hc
        subst eL; subst eC
        have h0 : @LE.le Int _ 0 l := hvc _ (by simp)
        have h1 : @LE.le Int _ l c := hvc _ (by simp)
        have h2 : @LE.le Int _ ((by_ : Int) * c) 281474976710656 := hvc _ (by simp)
        obtain ⟨i, z, hi, hz, hs, hzc, ha⟩ := (zel_spec hzt).ex
        have hbi : i.bytes = by_ := by simpa [bytesT, hi] using hby
        subst hbi
        have hcc : @LE.le Int _ c 281474976710656 := by
          have : (1 : Int) * c ≤ (i.bytes : Int) * c := Int.mul_le_mul_of_nonneg_right (by omega) (Int.le_trans h0 h1)
          rw [Int.one_mul] at this
          exact Int.le_trans this h2
        have hrun := run_make (P := cx.P) w t e0 i z hu hi hz k1 k2 l c h0 h1 h2 (Int.le_trans hcc (by decide))
        have hzc' : z.cells = u.zero.toArray := by rw [← hzc]
        have h1' : (Int.toNat l) ≤ (Int.toNat c) := Int.toNat_le_toNat h1
        have R1 := R.new hf (.row u (List.replicate (Int.toNat l) u.dflt) []) rfl (madeCells z.cells ((Int.toNat c) * i.size)) e0 (0, 0) 0 (Int.toNat c)
          (fun w' hw' => by
            refine ⟨by rw [mkSub_root]; simpa using h1', ?_⟩
            rw [mkSub_root]
            refine ⟨_, e0, (0, 0), hw', thaw0 _, by rw [size_madeCells, hs]; exact Nat.le_of_eq (Nat.zero_add _), fun k hk => ?_⟩
            have hk' : k < (Int.toNat l) := by simpa using hk
            have e1 : (List.replicate (Int.toNat l) u.dflt)[k]'hk = u.dflt := by simp
            rw [e1, mkSub_sub]
            show u.rd _ _ _ _ (fun j => (madeCells z.cells (Int.toNat c * i.size))[0 + k * u.sz + j]?)
            refine Ty.rd_congr _ _ _ _ _ (fun j hj => ?_) (Ty.rd_zero _ _ u)
            rw [hzc', hs, made_get _ _ _ (by rw [u.zero_length]; omega) (by rw [Nat.zero_add]; exact mul_lt_of (by omega) hj), u.zero_length]
            rw [Nat.zero_add, Nat.mul_comm k u.sz, Nat.mul_add_mod, Nat.mod_eq_of_lt hj])
        refine ⟨_, _, _, hrun, R1, sl_new (u := u) (xs := List.replicate (Int.toNat l) u.dflt) (by rw [Eff.app, Eff.app, EffI.app, look_upd, if_pos rfl]) ?_⟩
        rw [setLoc_same]
        simp [Sub.addr]
      · cases h
    · cases h
  · cases h

end Go.Lift
/- Maps: made, looked up, set, a key taken out: abstract, and what the machine does. -/
namespace Go.Lift
open Go

def ptrZ (P : Program) (t : TypeId) : Bool :=
  match P.info? t with
  | some i => match i.zero with
    | some (.pointer none) => true
    | _ => false
  | none => false
def mapZ (P : Program) (t : TypeId) : Bool :=
  match P.info? t with
  | some i => match i.zero with
    | some (.map none) => true
    | _ => false
  | none => false
theorem ptrZ_run {P : Program} {t : TypeId} (h : ptrZ P t = true) (w : World) : (zeroValue t).run P w = .ok (.pointer none) w := by
  unfold ptrZ at h
  split at h
  · rename_i i1 hi1
    split at h
    · rename_i hz1; simp [zeroValue, typeInfo, hi1, hz1]
    · cases h
  · cases h
theorem mapZ_run {P : Program} {t : TypeId} (h : mapZ P t = true) (w : World) : (zeroValue t).run P w = .ok (.map none) w := by
  unfold mapZ at h
  split at h
  · rename_i i1 hi1
    split at h
    · rename_i hz1; simp [zeroValue, typeInfo, hi1, hz1]
    · cases h
  · cases h
def lookR (ok : Bool) (v : SV) (b : Bool) : AV := if ok = true then .tup [v, vB b] else .s v
def lookupV (P : Program) (rs : Regs) (t : TypeId) (x i : SV) (ok : Bool) : Option (List Prop × AV) :=
  match P.underlying t, x, i with
  | some (.map kt vt), .mp r, .val (.int ki) k => match P.underlying kt, look rs r with
    | some (.int kd), some (.mp (.int kk) v o H) => if kd = kk ∧ ki = kk then (
        if v.plain = true then (match zty P vt with
          | some u => if u = v then some ([], lookR ok (.val v ((getO o k).getD v.dflt)) (getO o k).isSome) else none
          | none => none)
        else match H with
          | [([.key k'], m)] => match look rs m with
              | some (.obox _ o' _) => if ptrZ P vt = true then some ([k' = k, (getO o k).isNone = true → o'.isNone = true], lookR ok (.addr m []) (getO o k).isSome) else none
              | some (.box _ _ _) => if ptrZ P vt = true then some ([k' = k, (getO o k).isSome = true], lookR ok (.addr m []) (getO o k).isSome) else none
              | some (.mp _ _ o' _) => if mapZ P vt = true then some ([k' = k, (getO o k).isNone = true → o'.isNone = true], lookR ok (.mp m) (getO o k).isSome) else none
              | _ => none
          | _ => none) else none
    | _, _ => none
  | _, _, _ => none

def OptV' (rs : Regs) (φ : Phi) (ok : Nat → Prop) (w : World) : Option SV → Option Value → Prop
  | none, none => True
  | some v, some V => SVRel rs φ ok w v V
  | _, _ => False
theorem mp_val {φ : Phi} {ok : Nat → Prop} {w : World} {r : Nat} {k v : Ty} {o : Option (List (k.den × v.den))} {H : Holes} (h : (Reg.mp k v o H).at ok w (φ r)) : (φ r).blk.isSome = o.isSome := by
  cases o with
  | none => have h1 : ((φ r) []).blk = none := h; simp [Sub.blk, h1]
  | some es => obtain ⟨_, b, ms, clock, h1, _⟩ := h; simp [Sub.blk, h1]

/-- What the machine finds under a key. -/
theorem run_lookup {P : Program} {w : World} {t kt vt : TypeId} {kk : IntKind} {v : Ty} {ok : Nat → Prop} {s : Sub} {o : Option (List (Int × v.den))} {H : Holes} (ht : P.underlying t = some (.map kt vt)) (hk : P.underlying kt = some (.int kk))
    (hat : (Reg.mp (.int kk) v o H).at ok w s) (k : Int) (c : Bool) :
    (getO o k = none ∧ ∀ z, (zeroValue vt).run P w = .ok z w → (Instr.lookup t (.map s.blk) (.int kk k) c).run P w = .ok (if c = true then .tuple #[z, .bool false] else z) w) ∨
    ∃ es b ms clock j, ∃ (h : j < es.length) (h' : j < ms.size), o = some es ∧ s.blk = some b ∧ w.heap[b]? = some (.map ms clock) ∧ MapAt ok w kk v s es ms clock ∧ es[j].1 = k ∧ getO o k = some es[j].2 ∧
      (Instr.lookup t (.map s.blk) (.int kk k) c).run P w = .ok (if c = true then .tuple #[ms[j].val, .bool true] else ms[j].val) w := by
  cases o with
  | none =>
    left
    refine ⟨rfl, fun z hz => ?_⟩
    have h1 : (s []).blk = none := hat
    have h1 : s.blk = none := h1
    rw [h1]
    have hf : (Instr.findKey kt (.int kk k) []).run P w = .ok none w := MapKept.run_findKey hk rfl
    have hc : (Instr.checkKey true 10000 kt (.int kk k)).run P w = .ok () w := MapKept.run_checkKey (d := .int kk) (k := .int kk k) hk rfl true 9999
    cases c <;> simp [Instr.lookup, run_underlying ht, Result.andThen, hc, hf, hz]
  | some es =>
    obtain ⟨h0, b, ms, clock, e1, e2, M⟩ := mapC_iff.1 hat
    have e1 : s.blk = some b := e1
    have hc : (Instr.checkKey ms.isEmpty 10000 kt (.int kk k)).run P w = .ok () w := MapKept.run_checkKey (d := .int kk) (k := .int kk k) hk rfl _ 9999
    rcases M.find k with ⟨h1, h2, _⟩ | ⟨j, hj, hj', h1, h2, _⟩
    · left
      refine ⟨(ent_absent h2).1, fun z hz => ?_⟩
      have hf : (Instr.findKey kt (.int kk k) ms.toList).run P w = .ok none w := MapKept.run_findKey hk h1
      rw [e1]
      cases c <;> simp [Instr.lookup, run_underlying ht, Result.andThen, MapKept.run_getObj_map e2, hc, hf, hz]
    · right
      have hf : (Instr.findKey kt (.int kk k) ms.toList).run P w = .ok (some (j, ms[j].val)) w := MapKept.run_findKey hk h1
      refine ⟨es, b, ms, clock, j, hj, hj', rfl, e1, e2, M, h2, (ent_at hj (differ_pw.1 M.df) h2).1, ?_⟩
      rw [e1]
      cases c <;> simp [Instr.lookup, run_underlying ht, Result.andThen, MapKept.run_getObj_map e2, hc, hf]

theorem lookR_rel {rs : Regs} {φ : Phi} {ok : Nat → Prop} {w : World} {c : Bool} {v : SV} {V : Value} {b : Bool} (h : SVRel rs φ ok w v V) : AVRel rs φ ok w (lookR c v b) (if c = true then .tuple #[V, .bool b] else V) := by
  unfold lookR
  cases c with
  | true => exact ⟨#[V, .bool b], rfl, .cons h (.cons (VRel.of_bool _ _ _) .nil)⟩
  | false => exact h

theorem lookupV_sound {cx : Cx} {φ : Phi} {st : St} {a : Act} {w : World} (R : RelF cx φ st a w) {t : TypeId} {x i : SV} {c : Bool} {v : AV} {vc : List Prop} {X I : Value}
    (h : lookupV cx.P st.regs t x i c = some (vc, v)) (hvc : ∀ p ∈ vc, p) (hx : SVRel st.regs φ (okOf st.regs φ) w x X) (hi : SVRel st.regs φ (okOf st.regs φ) w i I) :
    ∃ V, (Instr.lookup t X I c).run cx.P w = .ok V w ∧ AVRel st.regs φ (okOf st.regs φ) w v V := by
  have L := R.lay
  unfold lookupV at h
  split at h
  · rename_i kt vt r ki k ht
    split at h
    · rename_i kd kk vT o H hk hl
      split at h
      · rename_i hkk
        obtain ⟨rfl, rfl⟩ := hkk
        have eX : X = .map (φ r).blk := hx _ _ _ _ hl
        have eI : I = .int ki k := VRel.int_eq hi
        subst eX; subst eI
        have hat := L.rg r _ hl
        have hrun := run_lookup ht hk hat k c
        split at h
        · rename_i hpl
          split at h
          · rename_i u hz
            split at h
            · rename_i hu
              subst hu
              cases h
              rcases hrun with ⟨h1, h2⟩ | ⟨es, b, ms, clock, j, hj, hj', rfl, e1, e2, M, h3, h4, h5⟩
              · obtain ⟨z, hz1, hz2, _⟩ := (zty_spec hz).run (okOf st.regs φ) w w
                refine ⟨_, h2 z hz1, ?_⟩
                rw [h1]
                exact lookR_rel hz2
              · refine ⟨_, h5, ?_⟩
                rw [h4]
                obtain ⟨k1, k2, k3, k4⟩ := M.en j hj hj'
                exact lookR_rel (b := true) (show VRel _ _ _ _ _ from ⟨Ty.rd_plain _ _ _ _ _ hpl k2, k3, k4⟩)
            · cases h
          · cases h
        · split at h
          · rename_i k' m
            -- the cell, where the key is there
            have hcell : ∀ es b ms clock j (hj : j < es.length) (hj' : j < ms.size), o = some es → (φ r).blk = some b → w.heap[b]? = some (.map ms clock) → MapAt (okOf st.regs φ) w ki vT (φ r) es ms clock → es[j].1 = k → k' = k →
                ∀ gm, look st.regs m = some gm → ms[j].val = hdr (φ m) gm := by
              intro es b ms clock j hj hj' ho e1 e2 M h3 hkk gm hgm
              subst ho; subst hkk
              have := L.hl r _ hl [.key k'] m (by simp [Reg.holes]) ⟨es[j].2, by rw [← h3]; exact List.getElem_mem hj⟩ gm hgm
              have : entAt w (φ r).blk ki k' = some (hdr (φ m) gm) := this
              rw [e1, entAt_find M k' e2 hj hj' h3] at this
              simpa using this
            split at h
            · rename_i τ o' H' hm
              split at h
              · rename_i hz
                cases h
                have hkk : k' = k := hvc _ (by simp)
                have hab : (getO o k).isNone = true → o'.isNone = true := hvc _ (by simp)
                have hmat := L.rg m _ hm
                have hblk : (φ m).blk.isSome = o'.isSome := by
                  cases o' with
                  | none => have h1 : ((φ m) []).blk = none := hmat; simp [Sub.blk, h1]
                  | some y => obtain ⟨_, b, cs, ty, fz, h1, _⟩ := hmat; simp [Sub.blk, h1]
                rcases hrun with ⟨h1, h2⟩ | ⟨es, b, ms, clock, j, hj, hj', ho, e1, e2, M, h3, h4, h5⟩
                · have hn : o'.isNone = true := hab (by rw [h1]; rfl)
                  have hn' : (φ m).blk = none := by
                    cases o' with
                    | none => simpa using hblk
                    | some _ => cases hn
                  refine ⟨_, h2 _ (ptrZ_run hz w), ?_⟩
                  rw [h1]
                  refine lookR_rel (b := false) (show ∀ g, look st.regs m = some g → addrRel φ m [] _ g from fun g hg => ?_)
                  rw [hm] at hg; cases hg
                  exact .inl ⟨rfl, hblk, by rw [hn']; rfl⟩
                · refine ⟨_, h5, ?_⟩
                  rw [h4]
                  have hv := hcell es b ms clock j hj hj' ho e1 e2 M h3 hkk _ hm
                  refine lookR_rel (b := true) (show ∀ g, look st.regs m = some g → addrRel φ m [] _ g from fun g hg => ?_)
                  rw [hm] at hg; cases hg
                  exact .inl ⟨rfl, hblk, hv⟩
              · cases h
            · rename_i τ y' H' hm
              split at h
              · rename_i hz
                cases h
                have hkk : k' = k := hvc _ (by simp)
                have hab : (getO o k).isSome = true := hvc _ (by simp)
                obtain ⟨_, b1, cs, ty, fz, h1b, _⟩ := L.rg m _ hm
                rcases hrun with ⟨h1, h2⟩ | ⟨es, b, ms, clock, j, hj, hj', ho, e1, e2, M, h3, h4, h5⟩
                · rw [h1] at hab; cases hab
                · refine ⟨_, h5, ?_⟩
                  rw [h4]
                  have hv := hcell es b ms clock j hj hj' ho e1 e2 M h3 hkk _ hm
                  refine lookR_rel (b := true) (show ∀ g, look st.regs m = some g → addrRel φ m [] _ g from fun g hg => ?_)
                  rw [hm] at hg; cases hg
                  exact ⟨b1, h1b, by simp [pok], by rw [hv]; simp [hdr, Sub.blk, h1b, poff]⟩
              · cases h
            · rename_i k2 v2 o' H' hm
              split at h
              · rename_i hz
                cases h
                have hkk : k' = k := hvc _ (by simp)
                have hab : (getO o k).isNone = true → o'.isNone = true := hvc _ (by simp)
                have hblk := mp_val (L.rg m _ hm)
                rcases hrun with ⟨h1, h2⟩ | ⟨es, b, ms, clock, j, hj, hj', ho, e1, e2, M, h3, h4, h5⟩
                · have hn : o'.isNone = true := hab (by rw [h1]; rfl)
                  have hn' : (φ m).blk = none := by
                    cases o' with
                    | none => simpa using hblk
                    | some _ => cases hn
                  refine ⟨_, h2 _ (mapZ_run hz w), ?_⟩
                  rw [h1]
                  refine lookR_rel (b := false) (show ∀ k vt o H, look st.regs m = some (.mp k vt o H) → _ = Value.map (φ m).blk from fun k vt o H hg => ?_)
                  rw [hn']
                · refine ⟨_, h5, ?_⟩
                  rw [h4]
                  have hv := hcell es b ms clock j hj hj' ho e1 e2 M h3 hkk _ hm
                  exact lookR_rel (b := true) (show ∀ k vt o H, look st.regs m = some (.mp k vt o H) → _ = Value.map (φ m).blk from fun k vt o H hg => hv)
              · cases h
            · cases h
          · cases h
      · cases h
    · cases h
  · cases h

/-! ### set -/
def updH (H : Holes) (k : Int) : Holes → Option (List Prop × Holes)
  | [] => if H.isEmpty = true then some ([], []) else none
  | [([], m)] => match H with
    | [] => some ([], [([.key k], m)])
    | [([.key k'], m')] => if Nat.beq m m' = true then some ([k' = k], [([.key k], m)]) else none
    | _ => none
  | _ => none
def updV (P : Program) (rs : Regs) (t : TypeId) (x i y : SV) : Option (List Prop × Eff) :=
  match P.underlying t, x, i with
  | some (.map kt _), .mp r, .val (.int ki) k => match P.underlying kt, look rs r with
    | some (.int kd), some (.mp (.int kk) v o H) => if kd = kk ∧ ki = kk then (match toVal rs y v with
      | some (z, [], Hn) => if (Hn.all fun q => !(Nat.beq q.2 r)) = true ∧ linkHs v Hn = true then (match updH H k Hn with
        | some (vc, H') => some ((o.isSome = true) :: vc, [.set (some r) r (.mp (.int kk) v (putO o k z) H')])
        | none => none) else none
      | _ => none) else none
    | _, _ => none
  | _, _, _ => none
theorem updH_spec {H : Holes} {k : Int} {Hn H' : Holes} {vc : List Prop} (h : updH H k Hn = some (vc, H')) (hvc : ∀ p ∈ vc, p) :
    (Hn = [] ∧ H = [] ∧ H' = []) ∨ ∃ m, Hn = [([], m)] ∧ H' = [([.key k], m)] ∧ (H = [] ∨ H = [([.key k], m)]) := by
  unfold updH at h
  split at h
  · split at h
    · rename_i he; cases h; exact .inl ⟨rfl, by simpa using he, rfl⟩
    · cases h
  · rename_i m
    split at h
    · cases h; exact .inr ⟨m, rfl, rfl, .inl rfl⟩
    · rename_i k' m'
      split at h
      · rename_i he
        cases h
        have e : m = m' := Nat.eq_of_beq_eq_true he
        have hk : k' = k := hvc _ (by simp)
        subst e; subst hk
        exact .inr ⟨m, rfl, rfl, .inr rfl⟩
      · cases h
    · cases h
  · cases h

/-- A key is set: the block afterwards. -/
theorem run_update {P : Program} {w : World} {t kt vt : TypeId} {kk : IntKind} {v : Ty} {ok : Nat → Prop} {s s' : Sub} {es : List (Int × v.den)} {H : Holes} (ht : P.underlying t = some (.map kt vt)) (hk : P.underlying kt = some (.int kk))
    (hat : mapC ok w w (.int kk) v s es) (k : Int) (z : v.den) (V : Value) (hr : v.rd ok w s' z (fun i => V.cells[i]?)) (h1 : V.cells.size = v.sz) (h2 : Value.isAgg V = v.agg) :
    ∃ b ms clock ms' clock', s.blk = some b ∧ w.heap[b]? = some (.map ms clock) ∧ (Instr.mapUpdate t (.map s.blk) (.int kk k) V).run P w = .ok () { w with heap := w.heap.setIfInBounds b (.map ms' clock') } ∧
      MapAt ok w kk v (s.put [.key k] s') (putE es k z) ms' clock' ∧ ∀ w' : World, w'.heap[b]? = some (.map ms' clock') → entAt w' (some b) kk k = some V := by
  obtain ⟨h0, b, ms, clock, e1, e2, M⟩ := mapC_iff.1 hat
  have e1 : s.blk = some b := e1
  have hc : (Instr.checkKey false 10000 kt (.int kk k)).run P w = .ok () w := MapKept.run_checkKey (d := .int kk) (k := .int kk k) hk rfl _ 9999
  rcases M.find k with ⟨f1, f2, _⟩ | ⟨j, hj, hj', f1, f2, f3⟩
  · have hf : (Instr.findKey kt (.int kk k) ms.toList).run P w = .ok none w := MapKept.run_findKey hk f1
    have hp : putE es k z = es ++ [(k, z)] := (ent_absent f2).2.2.1 z
    have M2 := M.push f2 s' z hr h1 h2
    refine ⟨b, ms, clock, ms.push { key := .int kk k, val := V, born := clock }, clock + 1, e1, e2, ?_, by rw [hp]; exact M2, fun w' hw' => ?_⟩
    · rw [e1]
      simp [Instr.mapUpdate, run_underlying ht, MapKept.run_getObj_map e2, hc, hf, MapKept.run_setObj_map _ e2, Result.andThen]
    · have h5 : (es ++ [(k, z)]).length = es.length + 1 := by simp
      have h6 := entAt_find M2 k hw' (j := es.length) (by omega) (by rw [M2.sz, h5]; omega) (by simp)
      rw [h6]
      simp [Array.getElem_push, M.sz]
  · have hf : (Instr.findKey kt (.int kk k) ms.toList).run P w = .ok (some (j, ms[j].val)) w := MapKept.run_findKey hk f1
    have hp : putE es k z = es.set j (k, z) := (ent_at hj (differ_pw.1 M.df) f2).2.2.1 z
    have hjo : ms[j]? = some ms[j] := by simp
    have hs : (Instr.keyThatStays (.int kk k) (.int kk k)).run P w = .ok (.int kk k) w := MapKept.run_keyThatStays (d := .int kk) rfl
    let f : MapEntry → MapEntry := fun e => { e with val := V }
    have hfk : ∀ e, (f e).key = e.key ∧ (f e).born = e.born := fun e => ⟨rfl, rfl⟩
    have M2 := M.set hj f2 s' z f hfk hr h1 h2
    have hmod : (ms.modify j fun e => { e with key := .int kk k, val := V }) = ms.modify j f := by
      apply Array.ext
      · simp
      · intro i g1 g2
        rw [Array.getElem_modify, Array.getElem_modify]
        by_cases e : j = i
        · subst e; simp [f, f3]
        · simp [e]
    refine ⟨b, ms, clock, ms.modify j f, clock, e1, e2, ?_, by rw [hp]; exact M2, fun w' hw' => ?_⟩
    · rw [e1, ← hmod]
      simp [Instr.mapUpdate, run_underlying ht, MapKept.run_getObj_map e2, hc, hf, hjo, f3, hs, MapKept.run_setObj_map _ e2, Result.andThen]
    · have h6 := entAt_find M2 k hw' (j := j) (by simpa using hj) (by rw [M2.sz]; simpa using hj) (by simp)
      rw [h6]
      simp [Array.getElem_modify, f]

/-- A map's block is written. -/
theorem RelF.mapSet {cx : Cx} {φ : Phi} {st : St} {a : Act} {w : World} (R : RelF cx φ st a w) {r : Nat} {kk : IntKind} {v : Ty} {es es' : List (Int × v.den)} {H H' Hn : Holes} {k : Int} {b : Nat} {ms' : Array MapEntry} {clock' : Nat} {o : Obj}
    (hl : look st.regs r = some (.mp (.int kk) v (some es) H)) (hb : (φ r).blk = some b) (hob : w.heap[b]? = some o)
    (M : MapAt (okOf st.regs φ) w kk v ((φ r).put [.key k] (hsub Hn)) es' ms' clock')
    (hH : ∀ p m, (p, m) ∈ H → p = [.key k]) (hH' : ∀ p m, (p, m) ∈ H' ↔ p = [.key k] ∧ ([], m) ∈ Hn) (hHn : ∀ p m, (p, m) ∈ Hn → p = [] ∧ m ≠ r ∧ v.link = true ∧ ∃ y, (k, y) ∈ es')
    (hcell : ∀ m, ([], m) ∈ Hn → ∀ gm, look st.regs m = some gm → ∀ w' : World, w'.heap[b]? = some (.map ms' clock') → entAt w' (some b) kk k = some (hdr (φ m) gm)) :
    RelF cx (setLoc φ r ((φ r).put [.key k] (hsub Hn))) { st with regs := upd (without st.regs (some r)) r (some (.mp (.int kk) v (some es') H')) } a { w with heap := w.heap.setIfInBounds b (.map ms' clock') } := by
  have L := R.lay
  have hsame : (φ r).same ((φ r).put [.key k] (hsub Hn)) := Sub.put_same (by simp)
  obtain ⟨hset, hoth⟩ := MapKept.heap_set (o' := Obj.map ms' clock') hob
  refine R.step (w' := { w with heap := w.heap.setIfInBounds b (.map ms' clock') }) (some r) r _ _ (fun b0 hb0 => .inr ⟨r, _, rfl, hl, put_hsub_has hb0⟩) (fun q b0 _ hb0 => L.al r _ b0 hl ⟨q, put_hsub_get hb0⟩)
    (fun b0 hb0 => by simpa using L.al r _ b0 hl (put_hsub_has hb0)) (put_hsub_inj (L.inj r _ hl)) ?_ (.inr ⟨rfl, hsame, _, hl, rfl, rfl⟩) (fun l0 _ hf => by have := hf.1; rw [hl] at this; cases this) ?_ ?_ ?_ ?_ rfl rfl rfl (by simp)
  · intro b0 _ hne
    refine hoth b0 fun e => hne ?_
    rw [← hsame.blk, hb, e]
  · obtain ⟨h0, _⟩ := mapC_iff.1 (L.rg r _ hl)
    have h9 : ((φ r) []).blk = some b := hb
    exact mapC_iff.2 ⟨by simpa [Sub.put_root] using h0, b, ms', clock', by simpa [Sub.put_root] using h9, hset, M⟩
  · intro p m hpm
    obtain ⟨rfl, h2⟩ := (hH' p m).1 hpm
    obtain ⟨_, h3, _, _⟩ := hHn [] m h2
    refine ⟨h3, fun _ _ gm hgm => ?_⟩
    show entAt _ ((φ r).put [.key k] (hsub Hn)).blk kk k = _
    rw [← hsame.blk, hb]
    exact hcell m h2 gm hgm _ hset
  · intro q hq
    rcases put_cases (φ r) (hsub Hn) [.key k] q with ⟨s, es0, e0⟩ | ⟨hns, e0⟩
    · rw [e0] at hq
      obtain ⟨m, hm⟩ := hsub_hd hq
      obtain ⟨rfl, _, _, hy⟩ := hHn s m hm
      exact ⟨[.key k], m, (hH' _ _).2 ⟨rfl, hm⟩, by rw [es0]; rfl, hy⟩
    · rw [e0] at hq
      obtain ⟨q0, m, k1, k2, k3⟩ := L.told r _ hl q hq
      have := hH q0 m k1
      subst this
      exact (hns [] (by rw [k2]; rfl)).elim
  · intro p m hpm
    obtain ⟨rfl, h2⟩ := (hH' p m).1 hpm
    obtain ⟨_, _, h4, _⟩ := hHn [] m h2
    exact ⟨fun h => (by cases h), v, rfl, h4⟩

theorem updV_sound {cx : Cx} {φ : Phi} {st : St} {a : Act} {w : World} (R : RelF cx φ st a w) {t : TypeId} {x i y : SV} {vc : List Prop} {e : Eff} {X I Y : Value}
    (h : updV cx.P st.regs t x i y = some (vc, e)) (hvc : ∀ p ∈ vc, p) (hx : SVRel st.regs φ (okOf st.regs φ) w x X) (hi : SVRel st.regs φ (okOf st.regs φ) w i I) (hy : SVRel st.regs φ (okOf st.regs φ) w y Y) :
    ∃ w' φ', (Instr.mapUpdate t X I Y).run cx.P w = .ok () w' ∧ RelF cx φ' { st with regs := e.app st.regs } a w' := by
  have L := R.lay
  unfold updV at h
  split at h
  · rename_i kt vt r ki k ht
    split at h
    · rename_i kd kk vT o H hk hl
      split at h
      · rename_i hkk
        obtain ⟨rfl, rfl⟩ := hkk
        have eX : X = .map (φ r).blk := hx _ _ _ _ hl
        have eI : I = .int ki k := VRel.int_eq hi
        subst eX; subst eI
        split at h
        · rename_i z Hn htv
          split at h
          · rename_i hc
            obtain ⟨hnr, hlk⟩ := hc
            split at h
            · rename_i vc' H' hu
              cases h
              have ho : o.isSome = true := hvc _ (by simp)
              have hspec := updH_spec hu (fun p hp => hvc p (List.mem_cons_of_mem _ hp))
              obtain ⟨es, rfl⟩ := Option.isSome_iff_exists.1 ho
              obtain ⟨⟨v1, v2, v3, v4, v5⟩, _⟩ := toVal_sound R htv hy
              have v1 : vT.rd (okOf st.regs φ) w (hsub Hn) z (fun j => Y.cells[j]?) := v1
              have v5 : ∀ p m, (p, m) ∈ Hn → pok vT p ∧ ∀ g, look st.regs m = some g → Y.cells[poff vT p]? = some (hdr (φ m) g) := v5
              obtain ⟨b, ms, clock, ms', clock', e1, e2, e3, M, e4⟩ := run_update (H := H) ht hk (L.rg r _ hl) k z Y v1 v2 v3
              refine ⟨_, _, e3, RelF.mapSet R (o := .map ms clock) hl e1 e2 M (fun p m hpm => ?_) (fun p m => ?_) (fun p m hpm => ?_) (fun m hm gm hgm w' hw' => ?_)⟩
              · rcases hspec with ⟨_, h2, _⟩ | ⟨m0, _, _, h2 | h2⟩ <;> rw [h2] at hpm <;> simp at hpm
                exact hpm.1
              · rcases hspec with ⟨h1, _, h2⟩ | ⟨m0, h1, h2, _⟩ <;> rw [h1, h2] <;> simp
              · have h9 : p = [] := by
                  rcases hspec with ⟨h1, _, h2⟩ | ⟨m0, h1, h2, _⟩ <;> rw [h1] at hpm <;> simp at hpm
                  exact hpm.1
                refine ⟨h9, fun e0 => ?_, ?_, z, mem_putE⟩
                · have := List.all_eq_true.1 hnr _ hpm
                  subst e0
                  simp at this
                · have := List.all_eq_true.1 hlk _ hpm
                  subst h9
                  simpa [pty] using this
              · rw [e4 w' hw']
                have h5 := (v5 [] m hm).2 gm hgm
                have hlv : vT.link = true := by
                  have := List.all_eq_true.1 hlk _ hm
                  simpa [pty] using this
                have h6 := agg_cells (v3.trans (link_sz hlv).2.1)
                have h5 : Y.cells[0]? = some (hdr (φ m) gm) := by simpa [poff] using h5
                rw [← h5, h6]
            · cases h
          · cases h
        · cases h
      · cases h
    · cases h
  · cases h

/-! ### a key taken out -/
def delV (P : Program) (rs : Regs) (t : TypeId) (x i : SV) : Option (List Prop × SV × Eff) :=
  match P.underlying t, x, i with
  | some (.map kt _), .mp r, .val (.int ki) k => match P.underlying kt, look rs r with
    | some (.int kd), some (.mp (.int kk) v o []) => if kd = kk ∧ ki = kk then some ([o.isSome = true], .undef, [.set (some r) r (.mp (.int kk) v (delO' o k) [])]) else none
    | _, _ => none
  | _, _, _ => none
theorem delV_sound {cx : Cx} {φ : Phi} {st : St} {a : Act} {w : World} (R : RelF cx φ st a w) {t : TypeId} {x i v : SV} {vc : List Prop} {e : Eff} {X I : Value} (ts : Array TypeId) (ty : TypeId)
    (h : delV cx.P st.regs t x i = some (vc, v, e)) (hvc : ∀ p ∈ vc, p) (hts : ts[0]? = some t) (hx : SVRel st.regs φ (okOf st.regs φ) w x X) (hi : SVRel st.regs φ (okOf st.regs φ) w i I) :
    ∃ V w' φ', (Builtin.delete_ ts ty #[X, I]).run cx.P w = .ok V w' ∧ RelF cx φ' { st with regs := e.app st.regs } a w' ∧ SVRel (e.app st.regs) φ' (okOf (e.app st.regs) φ') w' v V := by
  have L := R.lay
  unfold delV at h
  split at h
  · rename_i kt vt r ki k ht
    split at h
    · rename_i kd kk vT o hk hl
      split at h
      · rename_i hkk
        obtain ⟨rfl, rfl⟩ := hkk
        cases h
        have eX : X = .map (φ r).blk := hx _ _ _ _ hl
        have eI : I = .int ki k := VRel.int_eq hi
        subst eX; subst eI
        have ho : o.isSome = true := hvc _ (by simp)
        obtain ⟨es, rfl⟩ := Option.isSome_iff_exists.1 ho
        obtain ⟨h0, b, ms, clock, e1, e2, M⟩ := mapC_iff.1 (L.rg r _ hl)
        have e1 : (φ r).blk = some b := e1
        have hc : (Instr.checkKey ms.isEmpty 10000 kt (.int ki k)).run cx.P w = .ok () w := MapKept.run_checkKey (d := .int ki) (k := .int ki k) hk rfl _ 9999
        rcases M.find k with ⟨f1, f2, _⟩ | ⟨j, hj, hj', f1, f2, f3⟩
        · have hf : (Instr.findKey kt (.int ki k) ms.toList).run cx.P w = .ok none w := MapKept.run_findKey hk f1
          have hd : delE es k = es := (ent_absent f2).2.2.2
          refine ⟨.tuple #[], { w with heap := w.heap.setIfInBounds b (.map ms clock) }, _, ?_, RelF.mapSet R (Hn := []) (k := k) (es' := delE es k) (H' := []) hl e1 e2 (by rw [hd]; exact M.same f2 _) (fun p m h => by cases h) (fun p m => by simp) (fun p m h => by cases h) (fun m h => by cases h), trivial⟩
          rw [e1]
          simp [Builtin.delete_, hts, run_underlying ht, MapKept.run_getObj_map e2, hc, hf, MapKept.run_setObj_map _ e2, Result.andThen]
        · have hf : (Instr.findKey kt (.int ki k) ms.toList).run cx.P w = .ok (some (j, ms[j].val)) w := MapKept.run_findKey hk f1
          have hd : delE es k = es.eraseIdx j := (ent_at hj (differ_pw.1 M.df) f2).2.2.2
          refine ⟨.tuple #[], { w with heap := w.heap.setIfInBounds b (.map (ms.eraseIdxIfInBounds j) clock) }, _, ?_, RelF.mapSet R (Hn := []) (k := k) (es' := delE es k) (H' := []) hl e1 e2 (by rw [hd]; exact M.erase hj f2 _) (fun p m h => by cases h) (fun p m => by simp) (fun p m h => by cases h) (fun m h => by cases h), trivial⟩
          rw [e1]
          simp [Builtin.delete_, hts, run_underlying ht, MapKept.run_getObj_map e2, hc, hf, MapKept.run_setObj_map _ e2, Result.andThen]
      · cases h
    · cases h
  · cases h

/-! ### a new one -/
def makeMapV (P : Program) (t : TypeId) (l : Option SV) (n : Nat) : Option (SV × Eff) :=
  match tyOf P 12 t with
  | some (.map (.int kk) v) => match P.underlying t, l with
    | some (.map _ _), none => some (.mp n, [.set none n (.mp (.int kk) v (some []) [])])
    | some (.map _ _), some (.val (.int _) _) => some (.mp n, [.set none n (.mp (.int kk) v (some []) [])])
    | _, _ => none
  | _ => none
theorem makeMapV_sound {cx : Cx} {φ : Phi} {st : St} {a : Act} {w : World} (R : RelF cx φ st a w) {n : Nat} (hf : FreshN cx st n) {t : TypeId} {l : Option SV} {v : SV} {e : Eff} {Lv : Option Value}
    (h : makeMapV cx.P t l n = some (v, e)) (hl : OptV' st.regs φ (okOf st.regs φ) w l Lv) :
    ∃ V w' φ', (Instr.makeMap t Lv).run cx.P w = .ok V w' ∧ RelF cx φ' { st with regs := e.app st.regs } a w' ∧ SVRel (e.app st.regs) φ' (okOf (e.app st.regs) φ') w' v V := by
  have key : ∀ (kk : IntKind) (vT : Ty), ∃ φ', RelF cx φ' { st with regs := upd (without st.regs none) n (some (.mp (.int kk) vT (some []) [])) } a { w with heap := w.heap.push (.map #[] 0) } ∧
      SVRel (upd (without st.regs none) n (some (.mp (.int kk) vT (some []) []))) φ' (okOf (upd (without st.regs none) n (some (.mp (.int kk) vT (some []) []))) φ') { w with heap := w.heap.push (.map #[] 0) } (.mp n) (.map (some w.heap.size)) := by
    intro kk vT
    refine ⟨_, R.newH hf (.mp (.int kk) vT (some []) []) (.map #[] 0) 0 0 [] (fun w' hw' => mapC_iff.2 ⟨rfl, w.heap.size, #[], 0, rfl, hw', rfl, ⟨fun i j hi => by simp at hi, fun i hi => by simp at hi⟩, fun i j hi => by simp at hi, fun i hi => by simp at hi⟩)
      (fun q m h => by cases h) (fun p m h => by cases h), fun k vt o H hg => ?_⟩
    rw [setLoc_same]; rfl
  unfold makeMapV at h
  split at h
  · rename_i kk vT _
    split at h
    · rename_i kt et hu
      cases h
      cases Lv with
      | some _ => exact hl.elim
      | none =>
        obtain ⟨φ', R', hv⟩ := key kk vT
        refine ⟨.map (some w.heap.size), _, φ', ?_, R', hv⟩
        simp [Instr.makeMap, Result.andThen]
    · rename_i kt et k0 x0 hu
      cases h
      cases Lv with
      | none => exact hl.elim
      | some L0 =>
        have eL : L0 = .int k0 x0 := VRel.int_eq hl
        subst eL
        obtain ⟨φ', R', hv⟩ := key kk vT
        refine ⟨.map (some w.heap.size), _, φ', ?_, R', hv⟩
        simp [Instr.makeMap, run_underlying hu, asInt, asIntOf, Result.andThen]
    · cases h
  · cases h
end Go.Lift
/- Appending, abstract, and that it tells what the machine does. -/
namespace Go.Lift
open Go

def strBytes (b : ByteArray) : List Int := b.data.toList.map fun c => (c.toNat : Int)

/-- A slice that is read, nothing of its own in its elements: their type, they themselves. -/
def rowOf (rs : Regs) : SV → Option ((t : Ty) × List t.den)
  | .sl r => match look rs r with
    | some (.row t xs _) => if t.plain = true then some ⟨t, xs⟩ else none
    | _ => none
  | .slv r lo hi => match look rs r with
    | some (.row t xs _) => if t.plain = true then some ⟨t, (xs.take hi.toNat).drop lo.toNat⟩ else none
    | _ => none
  | .val (.ro t) xs => some ⟨t, xs⟩
  | _ => none

theorem rowOf_sound {cx : Cx} {φ : Phi} {st : St} {a : Act} {w : World} (R : RelF cx φ st a w) {x : SV} {t : Ty} {xs : List t.den} {X : Value}
    (h : rowOf st.regs x = some ⟨t, xs⟩) (hx : SVRel st.regs φ (okOf st.regs φ) w x X) :
    ∃ ad cap, X = .slice ad xs.length cap ∧ xs.length ≤ cap ∧ (xs = [] ∨ ∃ b off cs ty fz, ad = some ⟨b, off, none⟩ ∧ w.heap[b]? = some (.cells cs ty fz) ∧
      ∀ i (h : i < xs.length), t.rd (okOf st.regs φ) w Sub.none xs[i] (fun j => cs[off + i * t.sz + j]?)) := by
  unfold rowOf at h
  split at h
  · rename_i r
    split at h
    · rename_i t' xs' H hl
      split at h
      · rename_i hpl
        cases h
        have hX := hx _ _ _ hl
        have h2 := R.lay.rg r _ hl
        refine ⟨_, _, hX, h2.1, ?_⟩
        have h3 := h2.2
        cases hbl : ((φ r) []).blk with
        | none =>
          simp only [hbl] at h3
          left
          have h4 : xs.length ≤ ((φ r) []).cap := h2.1
          exact List.length_eq_zero_iff.1 (by omega)
        | some b =>
          simp only [hbl] at h3
          obtain ⟨cs, ty, fz, e1, _, _, e4⟩ := h3
          exact .inr ⟨b, (φ r).off, cs, ty, fz, by simp [Sub.addr, Sub.blk, hbl], e1, fun i hi => Ty.rd_plain _ _ _ _ _ hpl (e4 i hi)⟩
      · cases h
    · cases h
  · rename_i r lo hi
    split at h
    · rename_i t' xs' H hl
      split at h
      · rename_i hpl
        cases h
        obtain ⟨h0, h1, h2, o, cap, hX, hc, hc2, ho⟩ := hx _ _ _ hl
        have hlen : ((xs'.take hi.toNat).drop lo.toNat).length = (hi - lo).toNat := by simp only [List.length_drop, List.length_take]; omega
        refine ⟨_, _, by rw [hlen]; exact hX, by rw [hlen]; exact hc, ?_⟩
        obtain ⟨k1, k2⟩ := R.lay.rg r _ hl
        cases hbl : ((φ r) []).blk with
        | none =>
          simp only [hbl] at k2
          left
          exact List.length_eq_zero_iff.1 (by rw [hlen]; omega)
        | some b =>
          simp only [hbl] at k2
          obtain ⟨cs, ty, fz, e1, _, _, e4⟩ := k2
          rcases Nat.eq_zero_or_pos ((xs'.take hi.toNat).drop lo.toNat).length with hz | hz
          · exact .inl (List.length_eq_zero_iff.1 hz)
          · right
            have ho' : o = (φ r).off + lo.toNat * t.sz := by
              rcases ho with ho | ⟨ho, _⟩
              · exact ho
              · omega
            refine ⟨b, o, cs, ty, fz, by simp [Sub.blk, hbl], e1, fun i hi' => ?_⟩
            have hi2 : lo.toNat + i < xs'.length := by omega
            have e : ((xs'.take hi.toNat).drop lo.toNat)[i]'hi' = xs'[lo.toNat + i] := by simp
            rw [e, ho']
            refine Ty.rd_congr _ _ _ _ _ (fun j hj => ?_) (Ty.rd_plain _ _ _ _ _ hpl (e4 _ hi2))
            congr 1
            rw [Nat.add_mul]
            simp only [Sub.off]
            omega
      · cases h
    · cases h
  · rename_i t' xs'
    cases h
    have hV : VRel _ _ _ _ _ := hx
    obtain ⟨a0, cap, g0, g1, g2⟩ := hV.1
    rw [hV.cells_one rfl] at g0
    have hX : X = .slice a0 (List.length xs) cap := by simpa using g0
    refine ⟨a0, cap, hX, g1, ?_⟩
    rcases g2 with g2 | ⟨b, off, cs, ty, fz, f1, f2, f3, f4⟩
    · exact .inl g2
    · exact .inr ⟨b, off, cs, ty, fz, f1, f3, f4⟩
  · cases h

/-- The cells that a slice's first elements have. -/
structure CellsS (ok : Nat → Prop) (w : World) (t : Ty) (S : Sub) (xs : List t.den) (cs : List Value) : Prop where
  len : cs.length = xs.length * t.sz
  rd : ∀ i (h : i < xs.length), t.rd ok w (S.at [.idx i]) xs[i] (fun j => cs[i * t.sz + j]?)
structure Cells (ok : Nat → Prop) (w : World) (t : Ty) (xs : List t.den) (cs : List Value) : Prop where
  len : cs.length = xs.length * t.sz
  one : ∀ c ∈ cs, c.oneCell' = true
  rd : ∀ i (h : i < xs.length), t.rd ok w Sub.none xs[i] (fun j => cs[i * t.sz + j]?)
theorem Cells.toS {ok : Nat → Prop} {w : World} {t : Ty} {xs : List t.den} {cs : List Value} (h : Cells ok w t xs cs) : CellsS ok w t Sub.none xs cs := ⟨h.len, h.rd⟩

theorem Cells.nil (ok : Nat → Prop) (w : World) (t : Ty) : Cells ok w t [] [] := ⟨by simp, by simp, by simp⟩

theorem cells_of {ok : Nat → Prop} {w : World} {t : Ty} {xs : List t.den} {cs : Array Value} {off : Nat}
    (h : ∀ i (h : i < xs.length), t.rd ok w Sub.none xs[i] (fun j => cs[off + i * t.sz + j]?)) :
    Cells ok w t xs ((List.range (xs.length * t.sz)).map fun j => (cs[off + j]?).getD undef) ∧ ∀ j, j < xs.length * t.sz → cs[off + j]? = some ((cs[off + j]?).getD undef) := by
  have key : ∀ j, j < xs.length * t.sz → ∃ v, cs[off + j]? = some v ∧ v.oneCell' = true := by
    intro j hj
    have hs : 0 < t.sz := by
      rcases Nat.eq_zero_or_pos t.sz with h0 | h0
      · rw [h0] at hj; simp at hj
      · exact h0
    have hd : j / t.sz < xs.length := Nat.div_lt_of_lt_mul (by rw [Nat.mul_comm]; exact hj)
    obtain ⟨v, hv, h1⟩ := Ty.rd_cell t _ _ _ Sub.none_hd (h (j / t.sz) hd) (j % t.sz) (Nat.mod_lt _ hs)
    have hv' : cs[off + j / t.sz * t.sz + j % t.sz]? = some v := hv
    rw [Nat.add_assoc, Nat.mul_comm, Nat.div_add_mod] at hv'
    exact ⟨v, hv', h1⟩
  refine ⟨⟨by simp, ?_, ?_⟩, ?_⟩
  · intro c hc
    simp only [List.mem_map, List.mem_range] at hc
    obtain ⟨j, hj, e⟩ := hc
    obtain ⟨v, hv, h1⟩ := key j hj
    rw [hv] at e
    subst e
    exact h1
  · intro i hi
    refine Ty.rd_congr _ _ _ _ _ (fun j hj => ?_) (h i hi)
    have hlt := mul_lt_of hi hj
    obtain ⟨v, hv, _⟩ := key _ hlt
    simp only [← Nat.add_assoc] at hv ⊢
    simp [hlt, ← Nat.add_assoc, hv]
  · intro j hj
    obtain ⟨v, hv, _⟩ := key j hj
    rw [hv]; rfl

theorem run_firstCells {P : Program} {cx : Cx} {φ : Phi} {st : St} {a : Act} {w : World} (R : RelF cx φ st a w) {x : SV} {t : Ty} {xs : List t.den} {X : Value}
    (h : rowOf st.regs x = some ⟨t, xs⟩) (hx : SVRel st.regs φ (okOf st.regs φ) w x X) :
    ∃ cs : List Value, (∀ w' : World, w'.heap = w.heap → (Builtin.firstCells t.sz xs.length X).run P w' = .ok cs.toArray w') ∧ Cells (okOf st.regs φ) w t xs cs := by
  obtain ⟨ad, cap, rfl, _, h2⟩ := rowOf_sound R h hx
  rcases h2 with h2 | ⟨b, off, cs, ty, fz, e1, e2, e3⟩
  · subst h2
    refine ⟨[], fun w' _ => ?_, Cells.nil _ _ _⟩
    cases ad <;> simp [Builtin.firstCells, loadCells, loadCellsFrom]
  · subst e1
    obtain ⟨hC, hget⟩ := cells_of e3
    refine ⟨_, fun w' hw' => ?_, hC⟩
    have := run_loadCells (P := P) w' ⟨b, off, none⟩ (xs.length * t.sz) (fun j => (cs[off + j]?).getD undef) (fun j hj => by
      rw [add_mk]
      simp [World.cell?, hw', e2, ← hget j hj])
    simp only [Builtin.firstCells, this]
/-- The cells of a row that is a region. -/
theorem run_rowCells {P : Program} {ok : Nat → Prop} {w : World} {s : Sub} {t : Ty} {xs : List t.den} (h : ownC ok w w t s xs) :
    ∃ cs : List Value, (∀ w' : World, w'.heap = w.heap → (Builtin.firstCells t.sz xs.length (.slice s.addr xs.length s.cap)).run P w' = .ok cs.toArray w') ∧ CellsS ok w t s xs cs ∧
      ∀ b, s.blk = some b → ∀ o, w.heap[b]? = some o → ∃ ca ty fz, o = .cells ca ty fz ∧ ∀ j, j < xs.length * t.sz → ca[s.off + j]? = cs[j]? := by
  obtain ⟨h1, h2⟩ := h
  cases hbl : (s []).blk with
  | none =>
    simp only [hbl] at h2
    have hx : xs = [] := List.length_eq_zero_iff.1 (by omega)
    subst hx
    have ha : s.addr = none := by simp [Sub.addr, Sub.blk, hbl]
    exact ⟨[], fun w' _ => by simp [ha, Builtin.firstCells], ⟨by simp, by simp⟩, fun b hb => by rw [Sub.blk, hbl] at hb; cases hb⟩
  | some b =>
    simp only [hbl] at h2
    obtain ⟨ca, ty, fz, f1, f2, f3, f4⟩ := h2
    have hfit : (s []).off + xs.length * t.sz ≤ ca.size := by
      have : xs.length * t.sz ≤ (s []).cap * t.sz := Nat.mul_le_mul_right _ h1
      omega
    have hget : ∀ j, j < xs.length * t.sz → ca[(s []).off + j]? = some ((ca[(s []).off + j]?).getD undef) := fun j hj => by
      rw [Array.getElem?_eq_getElem (by omega)]; rfl
    have ha : s.addr = some ⟨b, (s []).off, none⟩ := by simp [Sub.addr, Sub.blk, Sub.off, hbl]
    refine ⟨(List.range (xs.length * t.sz)).map fun j => (ca[(s []).off + j]?).getD undef, fun w' hw' => ?_, ⟨by simp, fun i hi => ?_⟩, fun b' hb' o ho => ?_⟩
    · have := run_loadCells (P := P) w' ⟨b, (s []).off, none⟩ (xs.length * t.sz) (fun j => (ca[(s []).off + j]?).getD undef) (fun j hj => by
        rw [add_mk]
        simp only [World.cell?, hw', f1]
        simpa using hget j hj)
      simp only [ha, Builtin.firstCells, this]
    · refine Ty.rd_congr _ _ _ _ _ (fun j hj => ?_) (f4 i hi)
      have hlt := mul_lt_of hi hj
      have := hget _ hlt
      rw [← Nat.add_assoc] at this
      rw [List.getElem?_map, List.getElem?_range hlt, Option.map_some]
      refine this.trans ?_
      rw [Nat.add_assoc]
    · rw [Sub.blk, hbl] at hb'; cases hb'
      rw [f1] at ho; cases ho
      refine ⟨ca, ty, fz, rfl, fun j hj => ?_⟩
      simp only [Sub.off]
      exact (hget j hj).trans (by rw [List.getElem?_map, List.getElem?_range hj]; rfl)

theorem CellsS.append {ok : Nat → Prop} {w : World} {t : Ty} {S S1 S2 : Sub} {xs ys : List t.den} {cs ds : List Value} (h : CellsS ok w t S1 xs cs) (k : CellsS ok w t S2 ys ds)
    (h1 : ∀ i, i < xs.length → S.at [.idx (i : Nat)] = S1.at [.idx (i : Nat)]) (h2 : ∀ i, i < ys.length → S.at [.idx ((xs.length + i : Nat) : Int)] = S2.at [.idx (i : Nat)]) : CellsS ok w t S (xs ++ ys) (cs ++ ds) := by
  refine ⟨by simp [h.len, k.len, Nat.add_mul], ?_⟩
  intro i hi
  by_cases hx : i < xs.length
  · have e : (xs ++ ys)[i]'hi = xs[i] := List.getElem_append_left hx
    rw [e, h1 i hx]
    refine Ty.rd_congr _ _ _ _ _ (fun j hj => ?_) (h.rd i hx)
    have := mul_lt_of hx hj
    rw [List.getElem?_append_left (by rw [h.len]; exact this)]
  · have hi' : i - xs.length < ys.length := by simp at hi; omega
    have e : (xs ++ ys)[i]'hi = ys[i - xs.length] := List.getElem_append_right (by omega)
    have e2 := h2 (i - xs.length) hi'
    rw [show xs.length + (i - xs.length) = i from by omega] at e2
    rw [e, e2]
    refine Ty.rd_congr _ _ _ _ _ (fun j hj => ?_) (k.rd _ hi')
    have hle : xs.length * t.sz ≤ i * t.sz := Nat.mul_le_mul_right _ (by omega)
    rw [List.getElem?_append_right (by rw [h.len]; omega), h.len]
    congr 1
    rw [Nat.sub_mul]
    omega

theorem growBy_le (n : Nat) (hn : 256 ≤ n) : ∀ (r c : Nat), c ≤ 2 * n → Builtin.growBy n r c ≤ 2 * n := by
  intro r
  induction r with
  | zero => intro c hc; simpa [Builtin.growBy] using hc
  | succ r ih =>
    intro c hc
    simp only [Builtin.growBy]
    split
    · exact hc
    · exact ih _ (by omega)
theorem nextcap_le (n c : Nat) (h : c < n) : Builtin.nextslicecap n c ≤ 2 * n := by
  unfold Builtin.nextslicecap
  split
  · omega
  · split
    · omega
    · exact growBy_le n (by omega) 4 c (by omega)

def source (P : Program) (rs : Regs) (xT : TypeId) (τ : Ty) (x : SV) : Option (List Prop × List τ.den) :=
  match P.underlying xT with
  | some .string => match x with
    | .val .str b => (castTy (.ro (.int .u8)) (.ro τ) (strBytes b)).map fun ys => ([], ys)
    | _ => none
  | some (.slice _) => match x with
    | .nilsl => some ([], [])
    | x => match rowOf rs x with
      | some ⟨t, xs⟩ => (castTy (.ro t) (.ro τ) xs).map fun ys => ([], ys)
      | none => none
  | some (.int _) => match x with
    | .val (.int _) n => some ([@LE.le Int _ 0 n, @LE.le Int _ n 140737488355328], List.replicate (Int.toNat n) τ.dflt)
    | _ => none
  | _ => none

/-- What is appended: the cells of a row or a string, or so many noughts. -/
def SrcAt (P : Program) (w : World) (xT : TypeId) (sz : Nat) (z : Value) (m : Nat) (X : Value) (new : List Value) : Prop :=
  ((P.underlying xT = some .string ∨ ∃ e', P.underlying xT = some (.slice e')) ∧ (Builtin.lenOf X).run P w = .ok m w ∧ ∀ w' : World, w'.heap = w.heap → (Builtin.firstCells sz m X).run P w' = .ok new.toArray w') ∨
  (∃ k k', P.underlying xT = some (.int k') ∧ X = .int k (m : Int) ∧ m ≤ 140737488355328 ∧ new.toArray = Builtin.zeroCells z.cells m)

theorem zeroCells_size (z : Array Value) (n : Nat) : (Builtin.zeroCells z n).size = n * z.size := by simp [Builtin.zeroCells]
theorem zeroCells_get (z : List Value) (n j : Nat) (hz : 0 < z.length) (hj : j < n * z.length) : (Builtin.zeroCells z.toArray n)[j]? = z[j % z.length]? := by
  have h1 : j % z.length < z.length := Nat.mod_lt _ hz
  simp [Builtin.zeroCells, hj, h1]

theorem source_sound {cx : Cx} {φ : Phi} {st : St} {a : Act} {w : World} (R : RelF cx φ st a w) {xT : TypeId} {τ : Ty} {x : SV} {ps : List Prop} {ys : List τ.den} {X z : Value}
    (h : source cx.P st.regs xT τ x = some (ps, ys)) (hvc : ∀ p ∈ ps, p) (hz : z.cells = τ.zero.toArray) (hx : SVRel st.regs φ (okOf st.regs φ) w x X) :
    ∃ cs : List Value, SrcAt cx.P w xT τ.sz z ys.length X cs ∧ Cells (okOf st.regs φ) w τ ys cs := by
  unfold source at h
  split at h
  · rename_i hu
    split at h
    · rename_i b
      have eX : X = .string b := VRel.str_eq hx
      subst eX
      simp only [Option.map_eq_some_iff, Prod.mk.injEq] at h
      obtain ⟨ys', h, _, rfl⟩ := h
      obtain ⟨e1, e2⟩ := castTy_some h
      cases e1
      have e2 : strBytes b = ys' := e2
      subst e2
      have hlen : (strBytes b).length = b.size := by simp [strBytes]
      refine ⟨b.data.toList.map (fun c => Value.int .u8 c.toNat), .inl ⟨.inl hu, by simp [Builtin.lenOf, hlen], fun w' _ => ?_⟩, ⟨by simp [Ty.sz, strBytes], ?_, ?_⟩⟩
      · have : b.extract 0 b.size = b := by
          apply ByteArray.ext
          simp
        simp only [Builtin.firstCells, hlen, this, Sem.run_pure]
        congr 1
        apply Array.ext'
        simp
      · intro c hc
        simp only [List.mem_map] at hc
        obtain ⟨d, _, rfl⟩ := hc
        rfl
      · intro i hi
        have hi' : i < b.data.toList.length := by simpa [strBytes] using hi
        show _ = _
        simp [Ty.sz, strBytes, List.getElem?_eq_getElem hi']
    · cases h
  · rename_i e hu
    split at h
    · cases h
      have hX : X = .slice none 0 0 := hx
      subst hX
      exact ⟨[], .inl ⟨.inr ⟨_, hu⟩, by simp [Builtin.lenOf], by simp [Builtin.firstCells]⟩, Cells.nil _ _ _⟩
    · split at h
      · rename_i t xs hr
        simp only [Option.map_eq_some_iff, Prod.mk.injEq] at h
        obtain ⟨ys', h, _, rfl⟩ := h
        obtain ⟨e1, e2⟩ := castTy_some h
        cases e1
        have e2 : xs = ys' := e2
        subst e2
        obtain ⟨cs, hc, hC⟩ := run_firstCells (P := cx.P) R hr hx
        obtain ⟨ad, cap, rfl, _, _⟩ := rowOf_sound R hr hx
        exact ⟨cs, .inl ⟨.inr ⟨_, hu⟩, by simp [Builtin.lenOf], hc⟩, hC⟩
      · cases h
  · rename_i k' hu
    split at h
    · rename_i k n
      cases h
      have eX : X = .int k n := VRel.int_eq hx
      subst eX
      have h0 : @LE.le Int _ 0 n := hvc _ (by simp)
      have h1 : @LE.le Int _ n 140737488355328 := hvc _ (by simp)
      obtain ⟨m, rfl⟩ := Int.eq_ofNat_of_zero_le h0
      have hm : m ≤ 140737488355328 := by omega
      have hzl : z.cells.size = τ.sz := by rw [hz]; exact τ.zero_length
      obtain ⟨hC, hg⟩ := cells_of (ok := okOf st.regs φ) (w := w) (t := τ) (xs := List.replicate m τ.dflt) (cs := Builtin.zeroCells z.cells m) (off := 0) (fun i hi => by
        have hi' : i < m := by simpa using hi
        rw [List.getElem_replicate]
        refine Ty.rd_congr _ _ _ _ _ (fun j hj => ?_) (Ty.rd_zero _ _ τ)
        rw [hz, zeroCells_get _ _ _ (by rw [τ.zero_length]; omega) (by rw [τ.zero_length, Nat.zero_add]; exact mul_lt_of hi' hj), τ.zero_length, Nat.zero_add, Nat.mul_comm i τ.sz, Nat.mul_add_mod, Nat.mod_eq_of_lt hj])
      refine ⟨_, .inr ⟨k, k', hu, by simp, by simpa using hm, ?_⟩, hC⟩
      simp only [Int.toNat_natCast, List.length_replicate] at hg ⊢
      apply Array.ext'
      refine List.ext_getElem? fun j => ?_
      simp only [List.getElem?_map, Nat.zero_add] at hg ⊢
      by_cases hj : j < m * τ.sz
      · rw [List.getElem?_range hj, Option.map_some, ← hg j hj, Array.getElem?_toList]
      · rw [List.getElem?_eq_none (by simpa using hj), List.getElem?_eq_none (by rw [Array.length_toList, zeroCells_size, hzl]; omega)]; rfl
    · cases h
  · cases h

/-- What is appended, and the region that it takes with it. -/
def sourceN (P : Program) (rs : Regs) (xT : TypeId) (τ : Ty) (x : SV) : Option (List Prop × List τ.den × Option Nat × Holes) :=
  match source P rs xT τ x with
  | some (ps, ys) => some (ps, ys, none, [])
  | none => match P.underlying xT with
    | some (.slice _) => match x with
      | .sl r => match look rs r with
        | some (.row t xs H) => if (H.all fun q => (look rs q.2).isSome) = true then (castTy (.own t) (.own τ) xs).map fun ys => ([], ys, some r, H) else none
        | _ => none
      | _ => none
    | _ => none
def delO : Option Nat → Eff
  | none => []
  | some r => [.del r]
def shiftH (k : Nat) (H : Holes) : Holes := H.map fun q => match q.1 with
  | .idx i :: p => (.idx (i + k) :: p, q.2)
  | p => (p, q.2)
def appendV (P : Program) (rs : Regs) (sT xT : TypeId) (s x : SV) (n : Nat) : Option (List Prop × SV × Eff) :=
  match P.underlying sT with
  | some (.slice e) => match zel P e, bytesT P e with
    | some τ, some by_ => match sourceN P rs xT τ x with
      | some (ps, ys, rx, H) => if 1 ≤ by_ ∧ (H.all fun q => !(Nat.beq q.2 n)) = true then
          match s with
          | .nilsl => some (ps ++ [ys.length * by_ ≤ 140737488355328], .sl n, delO rx ++ [.set none n (.row τ ys (shiftH 0 H))])
          | .sl r => if rx = some r then none else match look rs r with
            | some (.row τ' xs []) => match castTy (.own τ') (.own τ) xs with
              | some xs => some (ps ++ [(List.length xs + ys.length) * by_ ≤ 140737488355328], .sl n, delO rx ++ [.set (some r) n (.row τ (List.append xs ys) (shiftH (List.length xs) H))])
              | none => none
            | _ => none
          | _ => none
        else none
      | none => none
    | _, _ => none
  | _ => none

def backTo (base : Option Addr) (k : Nat) (vs : List Value) : Sem Unit :=
  match base with
  | some a => storeCells (a.add k) vs
  | none => pure ()

/-- The machine's append, in the two ways it may go. -/
theorem run_append_cases {P : Program} {w : World} {sT xT ty e : TypeId} {i : TypeInfo} {z : Value} {base : Option Addr} {sLen sCap m : Nat} {X : Value} {new old : List Value}
    (hu : P.underlying sT = some (.slice e)) (hi : P.info? e = some i) (hz : i.zero = some z) (hzc : z.cells.size = i.size)
    (hb : 1 ≤ i.bytes) (hsrc : SrcAt P w xT i.size z m X new)
    (hold : ∀ w' : World, w'.heap = w.heap → (Builtin.firstCells i.size sLen (.slice base sLen sCap)).run P w' = .ok old.toArray w')
    (hroom : (sLen + m) * i.bytes ≤ 140737488355328) :
    (sLen + m ≤ sCap → (Builtin.append_ #[sT, xT] ty #[.slice base sLen sCap, X]).run P w =
      ((backTo base (sLen * i.size) new).run P w).andThen fun _ w' => .ok (.slice base (sLen + m) sCap) w') ∧
    (sCap < sLen + m → ∃ (cap : Nat) (rest : List Value) (w1 : World), sLen + m ≤ cap ∧ rest.length = (cap - (sLen + m)) * z.cells.size ∧ w1.heap = w.heap ∧ w1.os = w.os ∧ w1.tape = w.tape ∧ w1.output = w.output ∧
      (Builtin.append_ #[sT, xT] ty #[.slice base sLen sCap, X]).run P w = .ok (.slice (some ⟨w.heap.size, 0, none⟩) (sLen + m) cap) (w1.alloc (.cells (old.toArray ++ (new.toArray ++ rest.toArray)) e))) := by
  have hty : (typeInfo e).run P w = .ok i w := by simp [typeInfo, hi]
  have hsz : ∀ w, (sizeOf e).run P w = .ok i.size w := fun w => by simp [sizeOf, typeInfo, hi]
  have hz' : ∀ w, (zeroValue e).run P w = .ok z w := fun w => by simp [zeroValue, typeInfo, hi, hz]
  have hzero : m * i.size = 0 → Builtin.zeroCells z.cells m = #[] := fun h => by
    apply Array.eq_empty_of_size_eq_zero
    rw [zeroCells_size, hzc, h]
  have hw47 : m ≤ 140737488355328 → IntKind.i64.wrap (m : Int) = m := fun h => by rw [IntKind.wrap_i64]; omega
  have hmb : m * i.bytes ≤ 140737488355328 := Nat.le_trans (Nat.mul_le_mul_right _ (by omega)) hroom
  have hmb' : ¬ (281474976710656 < (m : Int) * (i.bytes : Int)) := by
    have : ((m * i.bytes : Nat) : Int) ≤ 140737488355328 := by omega
    rw [Int.natCast_mul] at this
    omega
  have hneed : sLen + m ≤ 140737488355328 := Nat.le_trans (Nat.le_mul_of_pos_right _ (by omega)) hroom
  constructor
  · intro hle
    rcases hsrc with ⟨hd, hlen, hnew⟩ | ⟨k, k', hd, rfl, hm, hnew⟩
    · have hn := hnew w rfl
      rcases hd with hd | ⟨e', hd⟩ <;> cases base <;> simp [backTo, Builtin.append_, run_underlying hu, hsz, run_underlying hd, hlen, hle, hn]
    · have hw := hw47 hm
      have hm0 : ¬ ((m : Int) < 0) := by omega
      have hnl : new = (Builtin.zeroCells z.cells m).toList := by rw [← hnew]
      by_cases h0 : m * i.size = 0
      · have := hzero h0
        cases base <;> simp [backTo, Builtin.append_, run_underlying hu, hsz, run_underlying hd, asInt, asIntOf, hw, hm0, hty, hmb', h0, hle, hnl, this]
      · cases base <;> simp [backTo, Builtin.append_, run_underlying hu, hsz, run_underlying hd, asInt, asIntOf, hw, hm0, hty, hmb', h0, hle, hnl, hz']
  · intro hlt
    have hcap : Builtin.nextslicecap (sLen + m) sCap * i.bytes ≤ 281474976710656 := by
      have h1 := nextcap_le (sLen + m) sCap hlt
      have h2 : Builtin.nextslicecap (sLen + m) sCap * i.bytes ≤ 2 * (sLen + m) * i.bytes := Nat.mul_le_mul_right _ h1
      rw [Nat.mul_assoc] at h2
      omega
    have hb0 : ¬ i.bytes = 0 := by omega
    have n1 : ¬ sLen + m ≤ sCap := by omega
    have n2 : ¬ (281474976710656 < Builtin.nextslicecap (sLen + m) sCap * i.bytes) := by omega
    let q := Question.appendCap (sLen + m) sCap e
    have hcut : sLen + m ≤ q.cut (w.tape w.drawn q) := by
      show sLen + m ≤ (sLen + m) + _
      omega
    refine ⟨q.cut (w.tape w.drawn q), (Builtin.zeroCells z.cells (q.cut (w.tape w.drawn q) - (sLen + m))).toList, w.drew, hcut, ?_, rfl, rfl, rfl, rfl, ?_⟩
    · simp [Builtin.zeroCells]
    · have ho := hold w.drew rfl
      rcases hsrc with ⟨hd, hlen, hnew⟩ | ⟨k, k', hd, rfl, hm, hnew⟩
      rotate_left
      · have hw := hw47 hm
        have hm0 : ¬ ((m : Int) < 0) := by omega
        have hnl : new = (Builtin.zeroCells z.cells m).toList := by rw [← hnew]
        have hmx : IntKind.i64.max = 9223372036854775807 := by decide
        have n3 : ¬ (9223372036854775807 < (sLen : Int) + (m : Int)) := by omega
        by_cases h0 : m * i.size = 0
        · have := hzero h0
          simp [Builtin.append_, run_underlying hu, hsz, run_underlying hd, asInt, asIntOf, hw, hm0, hmb', n1, n3, typeInfo, hi, n2, Question.forced, ho, h0, this, hnl, hz', newRow, q, hmx]
        · simp [Builtin.append_, run_underlying hu, hsz, run_underlying hd, asInt, asIntOf, hw, hm0, hmb', n1, n3, typeInfo, hi, n2, Question.forced, ho, h0, hnl, hz', newRow, q, hmx]
      have hn := hnew w.drew rfl
      rcases hd with hd | ⟨e', hd⟩ <;> simp [Builtin.append_, run_underlying hu, hsz, run_underlying hd, hlen, n1, typeInfo, hi, hb0, n2, Question.forced, ho, hn, hz', newRow, q]

end Go.Lift
/- Appending: soundness. -/
namespace Go.Lift
open Go

theorem alloc_heap (w : World) (o : Obj) : (w.alloc o).heap = w.heap.push o := rfl

/-- A row's places, others behind them. -/
def joinS (rt : Ref) (s : Sub) (k : Nat) (s2 : Sub) : Sub := fun p => match p with
  | [] => rt
  | .idx i :: q => if i < (k : Int) then s (.idx i :: q) else s2 (.idx (i - k) :: q)
  | _ => ⟨none, 0, 0, true⟩
theorem joinS_lo {rt : Ref} {s s2 : Sub} {k i : Nat} (h : i < k) : (joinS rt s k s2).at [.idx (i : Nat)] = s.at [.idx (i : Nat)] := by
  funext q
  show (if ((i : Nat) : Int) < (k : Int) then _ else _) = _
  rw [if_pos (by omega)]; rfl
theorem joinS_hi (rt : Ref) (s s2 : Sub) (k i : Nat) : (joinS rt s k s2).at [.idx ((k + i : Nat) : Int)] = s2.at [.idx (i : Nat)] := by
  funext q
  show (if (((k + i : Nat) : Nat) : Int) < (k : Int) then _ else _) = _
  rw [if_neg (by omega), show (((k + i : Nat) : Int) - (k : Int)) = (i : Int) by omega]; rfl
theorem joinS_cases (rt : Ref) (s s2 : Sub) (k : Nat) (p : List Step) : (p = [] ∧ joinS rt s k s2 p = rt) ∨ (∃ i q, p = .idx i :: q ∧ i < (k : Int) ∧ joinS rt s k s2 p = s p) ∨
    (∃ i q, p = .idx i :: q ∧ ¬ i < (k : Int) ∧ joinS rt s k s2 p = s2 (.idx (i - k) :: q)) ∨ joinS rt s k s2 p = ⟨none, 0, 0, true⟩ := by
  cases p with
  | nil => exact .inl ⟨rfl, rfl⟩
  | cons a q =>
    cases a with
    | idx i =>
      by_cases h : i < (k : Int)
      · exact .inr (.inl ⟨i, q, rfl, h, by show (if _ then _ else _) = _; rw [if_pos h]⟩)
      · exact .inr (.inr (.inl ⟨i, q, rfl, h, by show (if _ then _ else _) = _; rw [if_neg h]⟩))
    | fst => exact .inr (.inr (.inr rfl))
    | snd => exact .inr (.inr (.inr rfl))
    | deref => exact .inr (.inr (.inr rfl))
    | key k => exact .inr (.inr (.inr rfl))
theorem joinS_inj {rt : Ref} {s s2 : Sub} {k : Nat} (h1 : s.inj) (h2 : s2.inj) (hd : ∀ b, s.has b → s2.has b → False) (hr : ∀ b, rt.blk = some b → (∀ p, p ≠ [] → (s p).blk ≠ some b) ∧ ¬ s2.has b) : (joinS rt s k s2).inj := by
  intro p q b e1 e2
  rcases joinS_cases rt s s2 k p with ⟨hp, ep⟩ | ⟨i, x, hp, _, ep⟩ | ⟨i, x, hp, _, ep⟩ | ep <;> rw [ep] at e1 <;>
    rcases joinS_cases rt s s2 k q with ⟨hq, eq⟩ | ⟨j, y, hq, _, eq⟩ | ⟨j, y, hq, _, eq⟩ | eq <;> rw [eq] at e2
  all_goals first | (cases e1; done) | (cases e2; done) | skip
  · rw [hp, hq]
  · exact ((hr b e1).1 q (by rw [hq]; simp) e2).elim
  · exact ((hr b e1).2 ⟨_, e2⟩).elim
  · exact ((hr b e2).1 p (by rw [hp]; simp) e1).elim
  · exact h1 p q b e1 e2
  · exact (hd b ⟨_, e1⟩ ⟨_, e2⟩).elim
  · exact ((hr b e2).2 ⟨_, e1⟩).elim
  · exact (hd b ⟨_, e2⟩ ⟨_, e1⟩).elim
  · have := h2 _ _ b e1 e2
    simp only [List.cons.injEq, Step.idx.injEq] at this
    rw [hp, hq, this.2, show i = j by omega]
theorem joinS_has {rt : Ref} {s s2 : Sub} {k : Nat} {b : Nat} (h : (joinS rt s k s2).has b) : rt.blk = some b ∨ (∃ p, p ≠ [] ∧ (s p).blk = some b) ∨ s2.has b := by
  obtain ⟨p, hp⟩ := h
  rcases joinS_cases rt s s2 k p with ⟨_, ep⟩ | ⟨i, x, e, _, ep⟩ | ⟨i, x, _, _, ep⟩ | ep <;> rw [ep] at hp
  · exact .inl hp
  · exact .inr (.inl ⟨p, by rw [e]; simp, hp⟩)
  · exact .inr (.inr ⟨_, hp⟩)
  · cases hp

/-- What the source brings: its cells, its places, the region that it takes with it given up. -/
theorem sourceN_sound {cx : Cx} {φ : Phi} {st : St} {a : Act} {w : World} (R : RelF cx φ st a w) {xT : TypeId} {τ : Ty} {x : SV} {ps : List Prop} {ys : List τ.den} {rx : Option Nat} {H : Holes} {X z : Value}
    (h : sourceN cx.P st.regs xT τ x = some (ps, ys, rx, H)) (hvc : ∀ p ∈ ps, p) (hz : z.cells = τ.zero.toArray) (hx : SVRel st.regs φ (okOf st.regs φ) w x X) :
    ∃ (cs : List Value) (S : Sub), SrcAt cx.P w xT τ.sz z ys.length X cs ∧ CellsS (okOf st.regs φ) w τ S ys cs ∧ (∀ c ∈ cs, c.oneCell' = true) ∧
      S.inj ∧ (∀ b, S.has b → ∃ r g, rx = some r ∧ look st.regs r = some g ∧ (φ r).has b) ∧
      (∀ q, (S q).hd = false → ∃ m, (q, m) ∈ H ∧ ∃ i p, q = .idx i :: p) ∧
      (∀ q m, (q, m) ∈ H → ∃ i p u, q = .idx i :: p ∧ 0 ≤ i ∧ i < (ys.length : Int) ∧ pok τ p ∧ pty τ p = some u ∧ u.link = true ∧ rx ≠ some m ∧ ∀ gm, look st.regs m = some gm → cs[i.toNat * τ.sz + poff τ p]? = some (hdr (φ m) gm)) := by
  unfold sourceN at h
  split at h
  · rename_i ps' ys' hs
    cases h
    obtain ⟨cs, h1, h2⟩ := source_sound R hs hvc hz hx
    exact ⟨cs, Sub.none, h1, h2.toS, h2.one, fun p q b e => by (cases e), fun b ⟨_, e⟩ => by (cases e), fun q e => by (cases e), fun q m e => by (cases e)⟩
  · split at h
    · rename_i e hu
      split at h
      · rename_i r _
        split at h
        · rename_i t xs H' hl
          split at h
          · rename_i hal
            rw [Option.map_eq_some_iff] at h
            obtain ⟨ys', hc, e⟩ := h
            cases e
            obtain ⟨e1, e2⟩ := castTy_some hc
            cases e1
            have e2 : xs = ys := e2
            subst e2
            have L := R.lay
            have hX := hx _ _ _ hl
            subst hX
            have hown : ownC _ w w τ (φ r) xs := L.rg r _ hl
            obtain ⟨cs, k1, k2, k3⟩ := run_rowCells (P := cx.P) hown
            have hcell : ∀ q m, (q, m) ∈ H → ∃ i p u, q = .idx i :: p ∧ 0 ≤ i ∧ i < (xs.length : Int) ∧ pok τ p ∧ pty τ p = some u ∧ u.link = true ∧ some r ≠ some m ∧ ∀ gm, look st.regs m = some gm → cs[i.toNat * τ.sz + poff τ p]? = some (hdr (φ m) gm) := by
              intro q m hqm
              obtain ⟨n1, n2, u, n3, n4⟩ := L.ht r _ hl q m hqm
              have n2' := n2 rfl
              clear n2
              cases q with
              | nil => cases n3
              | cons c p =>
                cases c <;> try (cases n3; done)
                rename_i i
                have n2 := n2'
                refine ⟨i, p, u, rfl, n2.1, n2.2.1, n2.2.2, n3, n4, fun e => n1 (Option.some.inj e).symm, fun gm hgm => ?_⟩
                have hcl := L.hl r _ hl _ m hqm n2 gm hgm
                rw [cellR_off rfl n3] at hcl
                obtain ⟨b, ca, ty, fz, f1, f2, _, _, _⟩ := place_of (L.rg r _ hl) n2 n3 rfl
                obtain ⟨ca', ty', fz', g1, g2⟩ := k3 b f1 _ f2
                cases g1
                rw [f1] at hcl
                simp only [cellAt, f2, offR] at hcl
                have h5 := poff_le p τ u n2.2.2 n3
                have h6 := (link_sz n4).1
                have h7 : (i.toNat + 1) * τ.sz ≤ xs.length * τ.sz := Nat.mul_le_mul_right _ (by have := n2.2.1; have := n2.1; omega)
                rw [Nat.add_mul] at h7
                rw [← g2 _ (by omega), ← hcl, Nat.add_assoc]
            refine ⟨cs, φ r, .inl ⟨.inr ⟨_, hu⟩, by simp [Builtin.lenOf], k1⟩, k2, ?_, L.inj r _ hl, fun b hb => ⟨r, _, rfl, hl, hb⟩, fun q hq => ?_, hcell⟩
            · intro c hcm
              obtain ⟨j, hj, e⟩ := List.getElem_of_mem hcm
              have hsz : 0 < τ.sz := by
                rcases Nat.eq_zero_or_pos τ.sz with h0 | h0
                · rw [k2.len, h0] at hj; simp at hj
                · exact h0
              have hj' : j < xs.length * τ.sz := by rw [← k2.len]; exact hj
              have hd : j / τ.sz < xs.length := Nat.div_lt_of_lt_mul (by rw [Nat.mul_comm]; exact hj')
              have hcs : cs[j]? = some c := by rw [List.getElem?_eq_getElem hj, e]
              have hjj : j / τ.sz * τ.sz + j % τ.sz = j := by rw [Nat.mul_comm]; exact Nat.div_add_mod _ _
              -- a cell that is open is a region's header
              by_cases hop : ∃ q m, (q, m) ∈ H ∧ ∃ p, q = .idx ((j / τ.sz : Nat) : Int) :: p ∧ poff τ p = j % τ.sz
              · obtain ⟨q, m, hqm, p, rfl, hp⟩ := hop
                obtain ⟨i, p', u, e0, _, _, _, _, _, _, h9⟩ := hcell _ m hqm
                cases e0
                have hm := List.all_eq_true.1 hal _ hqm
                obtain ⟨gm, hgm⟩ := Option.isSome_iff_exists.1 hm
                have := h9 gm hgm
                rw [Int.toNat_natCast, hp, hjj, hcs] at this
                cases this
                exact (hdr_one _ _).1
              · -- elsewhere what is there tells itself
                have hrd := k2.rd (j / τ.sz) hd
                have hsz' : 0 < τ.sz := hsz
                rcases rd_cell' τ _ _ _ hrd (j % τ.sz) (Nat.mod_lt _ hsz') with ⟨v, hv, h1⟩ | ⟨q, hq, e1, e2⟩
                · have hv' : cs[j / τ.sz * τ.sz + j % τ.sz]? = some v := hv
                  rw [hjj, hcs] at hv'; cases hv'
                  exact h1
                · obtain ⟨p0, m, h1, h2, _⟩ := L.told r _ hl _ e2
                  refine (hop ⟨p0, m, h1, q, ?_, e1⟩).elim
                  simpa [Reg.base] using h2.symm
            · obtain ⟨p0, m, h1, h2, _⟩ := L.told r _ hl q hq
              have h2 : q = p0 := by simpa [Reg.base] using h2
              subst h2
              obtain ⟨i, p, u, e, _⟩ := hcell q m h1
              exact ⟨m, h1, i, p, e⟩
          · cases h
        · cases h
      · cases h
    · cases h

theorem shiftH_mem {k : Nat} {H : Holes} {q : List Step} {m : Nat} (h : (q, m) ∈ shiftH k H) (hH : ∀ q m, (q, m) ∈ H → ∃ i p, q = .idx i :: p) : ∃ i p, q = .idx (i + k) :: p ∧ (.idx i :: p, m) ∈ H := by
  obtain ⟨⟨q0, m0⟩, h1, h2⟩ := List.mem_map.1 h
  obtain ⟨i, p, rfl⟩ := hH q0 m0 h1
  simp only [Prod.mk.injEq] at h2
  obtain ⟨rfl, rfl⟩ := h2
  exact ⟨i, p, rfl, h1⟩
theorem shiftH_in {k : Nat} {H : Holes} {i : Int} {p : List Step} {m : Nat} (h : (.idx i :: p, m) ∈ H) : (.idx (i + k) :: p, m) ∈ shiftH k H := List.mem_map.2 ⟨_, h, rfl⟩

/-- The row that an append comes to; rx: the region that is taken with it. -/
theorem RelF.joined {cx : Cx} {φ : Phi} {st : St} {a : Act} {w w' : World} (R : RelF cx φ st a w) (old rx : Option Nat) (n : Nat) (hf : FreshN cx st n) {τ : Ty} {xs ys : List τ.den} {H : Holes} (rt : Ref) (s S : Sub)
    (hold : (old = none ∧ s = Sub.none ∧ xs = []) ∨ ∃ r, old = some r ∧ rx ≠ some r ∧ look st.regs r = some (.row τ xs []) ∧ s = φ r)
    (hrt : rt.hd = true ∧ ∀ b, rt.blk = some b → b < w'.heap.size ∧ (w.heap.size ≤ b ∨ s.blk = some b))
    (hS : S.inj) (hSb : ∀ b, S.has b → ∃ r g, rx = some r ∧ look st.regs r = some g ∧ (φ r).has b)
    (hSd : ∀ q, (S q).hd = false → ∃ m, (q, m) ∈ H ∧ ∃ i p, q = .idx i :: p)
    (hSH : ∀ q m, (q, m) ∈ H → ∃ i p u, q = .idx i :: p ∧ 0 ≤ i ∧ i < (ys.length : Int) ∧ pok τ p ∧ pty τ p = some u ∧ u.link = true ∧ m ≠ n ∧
      (old ≠ some m → rx ≠ some m → ∀ gm, look st.regs m = some gm → cellAt w' rt.blk (rt.off + (i + xs.length).toNat * τ.sz + poff τ p) = some (hdr (φ m) gm)))
    (hat : ownC (okOf st.regs φ) w w' τ (joinS rt s xs.length S) (List.append xs ys))
    (hother : ∀ b, b < w.heap.size → rt.blk ≠ some b → w'.heap[b]? = w.heap[b]?)
    (hos : w'.os = w.os) (htape : w'.tape = w.tape) (hout : w'.output = w.output) (hsize : w.heap.size ≤ w'.heap.size) :
    RelF cx (setLoc φ n (joinS rt s xs.length S)) { st with regs := Eff.app st.regs (delO rx ++ [.set old n (.row τ (List.append xs ys) (shiftH xs.length H))]) } a w' := by
  have L := R.lay
  have hHi : ∀ q m, (q, m) ∈ H → ∃ i p, q = Step.idx i :: p := fun q m h => by obtain ⟨i, p, _, h, _⟩ := hSH q m h; exact ⟨i, p, h⟩
  have hsb : ∀ b, s.has b → ∃ r g, old = some r ∧ rx ≠ some r ∧ look st.regs r = some g ∧ (φ r).has b := by
    intro b hb
    rcases hold with ⟨_, rfl, _⟩ | ⟨r, h1, h2, h3, rfl⟩
    · obtain ⟨_, e⟩ := hb; cases e
    · exact ⟨r, _, h1, h2, h3, hb⟩
  have hsd : ∀ q, (s q).hd = true := by
    intro q
    rcases hold with ⟨_, rfl, _⟩ | ⟨r, h1, h2, h3, rfl⟩
    · rfl
    · cases hx : ((φ r) q).hd with
      | true => rfl
      | false => obtain ⟨p0, m, h4, _⟩ := L.told r _ h3 q hx; cases h4
  have hsi : s.inj := by
    rcases hold with ⟨_, rfl, _⟩ | ⟨r, h1, h2, h3, rfl⟩
    · intro p q b e; cases e
    · exact L.inj r _ h3
  have hblt : ∀ b, s.has b → b < w.heap.size := fun b hb => by obtain ⟨r, g, _, _, h3, h4⟩ := hsb b hb; exact L.al r g b h3 h4
  have hSlt : ∀ b, S.has b → b < w.heap.size := fun b hb => by obtain ⟨r, g, _, h3, h4⟩ := hSb b hb; exact L.al r g b h3 h4
  have hdis : ∀ b, s.has b → S.has b → False := by
    intro b h1 h2
    obtain ⟨r, g, k1, k2, k3, k4⟩ := hsb b h1
    obtain ⟨r', g', j1, j3, j4⟩ := hSb b h2
    have := L.sep r r' g g' b k3 j3 k4 j4
    subst this
    exact k2 j1
  have hblk : (joinS rt s xs.length S).blk = rt.blk := rfl
  have hm1 : ∀ s : Nat, s ∈ old.toList ++ rx.toList ↔ old = some s ∨ rx = some s := fun s => by cases old <;> cases rx <;> simp [eq_comm]
  refine R.stepL (w' := w') (old.toList ++ rx.toList) n (.row τ (List.append xs ys) (shiftH xs.length H)) (joinS rt s xs.length S) _ (fun q => ?_) (fun b hb => ?_) (fun p b hp hb => ?_) (fun b hb => ?_)
    (joinS_inj hsi hS hdis fun b hb => ⟨fun p hp hpb => ?_, fun hSb' => ?_⟩) (fun b h1 h2 => hother b h1 (by rw [← hblk]; exact h2)) (.inl hf.1) (fun l0 hl => (hf.2 l0 hl).elim) hat (fun q m hqm => ?_) (fun q hq => ?_) (fun q m hqm => ?_) hos htape hout hsize
  · have : look (Eff.app st.regs (delO rx ++ [EffI.set old n (.row τ (List.append xs ys) (shiftH xs.length H))])) q = look (upd (without (Eff.app st.regs (delO rx)) old) n (some (.row τ (List.append xs ys) (shiftH xs.length H)))) q := by
      cases rx <;> rfl
    rw [this, look_upd, look_without]
    by_cases e : n = q
    · rw [if_pos e, if_pos e]
    · rw [if_neg e, if_neg e]
      have h2 : look (Eff.app st.regs (delO rx)) q = if rx = some q then none else look st.regs q := by
        cases rx with
        | none => simp [delO, Eff.app]
        | some r => simp only [delO, Eff.app, EffI.app, look_drop, Option.some.injEq]
      simp only [h2, hm1]
      by_cases e1 : old = some q <;> by_cases e2 : rx = some q <;> simp [e1, e2]
  · rcases joinS_has hb with h | ⟨p, _, h⟩ | h
    · rcases (hrt.2 b h).2 with h3 | h3
      · exact .inl h3
      · obtain ⟨r, g, k1, _, k3, k4⟩ := hsb b (Sub.has_blk h3)
        exact .inr ⟨r, g, (hm1 r).2 (.inl k1), k3, k4⟩
    · obtain ⟨r, g, k1, _, k3, k4⟩ := hsb b ⟨p, h⟩
      exact .inr ⟨r, g, (hm1 r).2 (.inl k1), k3, k4⟩
    · obtain ⟨r, g, k1, k3, k4⟩ := hSb b h
      exact .inr ⟨r, g, (hm1 r).2 (.inr k1), k3, k4⟩
  · rcases joinS_cases rt s S xs.length p with ⟨e, _⟩ | ⟨i, x, _, _, e⟩ | ⟨i, x, _, _, e⟩ | e
    · exact (hp e).elim
    · rw [e] at hb; exact hblt b ⟨_, hb⟩
    · rw [e] at hb; exact hSlt b ⟨_, hb⟩
    · rw [e] at hb; cases hb
  · rcases joinS_has hb with h | ⟨p, _, h⟩ | h
    · exact (hrt.2 b h).1
    · exact Nat.lt_of_lt_of_le (hblt b ⟨p, h⟩) hsize
    · exact Nat.lt_of_lt_of_le (hSlt b h) hsize
  · rcases (hrt.2 b hb).2 with h3 | h3
    · have := hblt b ⟨p, hpb⟩; omega
    · exact hp (hsi p [] b hpb h3)
  · rcases (hrt.2 b hb).2 with h3 | h3
    · have := hSlt b hSb'; omega
    · exact hdis b (Sub.has_blk h3) hSb'
  · obtain ⟨i, p, rfl, h1⟩ := shiftH_mem hqm hHi
    obtain ⟨i', p', u, e, k1, k2, k3, k4, k5, k6, k7⟩ := hSH _ m h1
    cases e
    refine ⟨k6, fun h2 _ gm hgm => ?_⟩
    have h3 : old ≠ some m ∧ rx ≠ some m := ⟨fun e => h2 ((hm1 m).2 (.inl e)), fun e => h2 ((hm1 m).2 (.inr e))⟩
    exact k7 h3.1 h3.2 gm hgm
  · rcases joinS_cases rt s S xs.length q with ⟨_, e⟩ | ⟨i, x, _, _, e⟩ | ⟨i, x, e0, h0, e⟩ | e
    · rw [e, hrt.1] at hq; cases hq
    · rw [e, hsd] at hq; cases hq
    · rw [e] at hq
      obtain ⟨m, h1, _⟩ := hSd _ hq
      obtain ⟨i', p', u, e', k1, k2, k3, k4, k5, k6, k7⟩ := hSH _ m h1
      cases e'
      have h2 := shiftH_in (k := xs.length) h1
      rw [show i - (xs.length : Int) + xs.length = i by omega] at h2
      refine ⟨_, m, h2, by rw [e0]; rfl, by omega, ?_, k3⟩
      have : (List.append xs ys).length = xs.length + ys.length := List.length_append ..
      rw [this]; omega
    · rw [e] at hq; cases hq
  · obtain ⟨i, p, rfl, h1⟩ := shiftH_mem hqm hHi
    obtain ⟨i', p', u, e, k1, k2, k3, k4, k5, k6, k7⟩ := hSH _ m h1
    cases e
    refine ⟨fun _ => ⟨by omega, ?_, k3⟩, u, k4, k5⟩
    have : (List.append xs ys).length = xs.length + ys.length := List.length_append ..
    rw [this]; omega

theorem CellsS.own {ok : Nat → Prop} {w w' : World} {τ : Ty} {s : Sub} {xs : List τ.den} {cs : List Value} (h : CellsS ok w τ s xs cs) {b cap : Nat} {e : TypeId} {rest : List Value}
    (hs : (s []).blk = some b ∧ (s []).off = 0 ∧ (s []).cap = cap) (hcap : xs.length ≤ cap) (hh : w'.heap[b]? = some (.cells (cs.toArray ++ rest.toArray) e)) (hrest : rest.length = (cap - xs.length) * τ.sz) : ownC ok w w' τ s xs := by
  refine ⟨by rw [hs.2.2]; exact hcap, ?_⟩
  rw [hs.1, hs.2.1, hs.2.2]
  refine ⟨_, e, (0, 0), hh, thaw0 _, ?_, fun i hi => ?_⟩
  · have h3 : xs.length * τ.sz ≤ cap * τ.sz := Nat.mul_le_mul_right _ hcap
    have h4 := Nat.sub_mul cap xs.length τ.sz
    simp only [Array.size_append, List.size_toArray, h.len, hrest]
    omega
  · refine Ty.rd_congr _ _ _ _ _ (fun j hj => ?_) (h.rd i hi)
    have := mul_lt_of hi hj
    show cs[i * τ.sz + j]? = (cs.toArray ++ rest.toArray)[0 + i * τ.sz + j]?
    rw [Nat.zero_add, Array.getElem?_append_left (by simp only [List.size_toArray, h.len]; exact this), List.getElem?_toArray]

theorem appendV_sound {cx : Cx} {φ : Phi} {st : St} {a : Act} {w : World} (R : RelF cx φ st a w) {n : Nat} (hf : FreshN cx st n) {sT xT ty : TypeId} {s x v : SV} {vc : List Prop} {e : Eff} {S X : Value}
    (h : appendV cx.P st.regs sT xT s x n = some (vc, v, e)) (hvc : ∀ p ∈ vc, p) (hs : SVRel st.regs φ (okOf st.regs φ) w s S) (hx : SVRel st.regs φ (okOf st.regs φ) w x X) :
    ∃ V w' φ', (Builtin.append_ #[sT, xT] ty #[S, X]).run cx.P w = .ok V w' ∧ RelF cx φ' { st with regs := e.app st.regs } a w' ∧ SVRel (e.app st.regs) φ' (okOf (e.app st.regs) φ') w' v V := by
  unfold appendV at h
  split at h
  · rename_i e0 hu
    split at h
    · rename_i τ by_ hzt hby
      split at h
      · rename_i ps ys rx H hsrc
        split at h
        · rename_i hb1
          obtain ⟨hb1, hHn⟩ := hb1
          obtain ⟨i, z, hi, hz, hsz, hzc, ha⟩ := (zel_spec hzt).ex
          have hbi : i.bytes = by_ := by simpa [bytesT, hi] using hby
          subst hbi
          have hzz : z.cells = τ.zero.toArray := by rw [← hzc]
          have hszz : z.cells.size = τ.sz := by rw [← Array.length_toList, hzc, τ.zero_length]
          have hvp : ∀ p ∈ ps, p := by
            intro p hp
            split at h
            · cases h; exact hvc p (List.mem_append_left _ hp)
            · split at h
              · cases h
              · split at h
                · split at h
                  · cases h; exact hvc p (List.mem_append_left _ hp)
                  · cases h
                · cases h
            · cases h
          obtain ⟨new, Sx, hnew, hN, hone, hS1, hS2, hS3, hS4⟩ := sourceN_sound R hsrc hvp hzz hx
          rw [← hsz] at hnew
          have hmn : ∀ q m, (q, m) ∈ H → m ≠ n := fun q m hqm e => by
            have := List.all_eq_true.1 hHn _ hqm
            subst e; simp at this
          have hlk : ∀ (old : Option Nat) g, look (Eff.app st.regs (delO rx ++ [EffI.set old n g])) n = some g := fun old g => by
            cases rx <;> simp [delO, Eff.app, EffI.app, look_upd]
          split at h
          · -- onto nothing
            cases h
            have hroom : ys.length * i.bytes ≤ 140737488355328 := hvc _ (by simp)
            have hS : S = .slice none 0 0 := hs
            subst hS
            obtain ⟨c1, c2⟩ := run_append_cases (P := cx.P) (w := w) (ty := ty) (base := none) (sLen := 0) (sCap := 0) (new := new) (old := []) hu hi hz (hszz.trans hsz.symm) hb1 hnew
              (fun w' _ => by simp [Builtin.firstCells]) (by simpa using hroom)
            rcases Nat.eq_zero_or_pos ys.length with h0 | h0
            · have hys : ys = [] := List.length_eq_zero_iff.1 h0
              subst hys
              have := c1 (by simp)
              have hH0 : H = [] := by
                cases H with
                | nil => rfl
                | cons q H =>
                  obtain ⟨i, p, u, _, h1, h2, _⟩ := hS4 q.1 q.2 (List.mem_cons_self ..)
                  simp at h2; omega
              subst hH0
              refine ⟨_, _, _, by simpa [backTo] using this, R.joined (w' := w) none rx n hf (xs := []) (ys := []) (H := []) ⟨none, 0, 0, true⟩ Sub.none Sx (.inl ⟨rfl, rfl, rfl⟩) ⟨rfl, fun b hb => by cases hb⟩ hS1 hS2 hS3
                (fun q m h => by cases h) ⟨Nat.le_refl _, rfl⟩ (fun b _ _ => rfl) rfl rfl rfl (Nat.le_refl _), ?_⟩
              exact sl_new (u := τ) (xs := []) (hlk _ _) (by rw [setLoc_same]; rfl)
            · obtain ⟨cap, rest, w1, g1, g2, g3, g4, g5, g6, g7⟩ := c2 (by omega)
              have R1 := R.heap g3 g4 g5 g6
              have hhp : (w1.alloc (.cells (([] : List Value).toArray ++ (new.toArray ++ rest.toArray)) e0)).heap[w1.heap.size]? = some (.cells (new.toArray ++ rest.toArray) e0) := by
                rw [alloc_heap, Array.getElem?_push, if_pos rfl]; simp
              have R2 := R1.joined (w' := w1.alloc (.cells (([] : List Value).toArray ++ (new.toArray ++ rest.toArray)) e0)) none rx n hf (xs := []) (ys := ys) (H := H) ⟨some w1.heap.size, 0, cap, true⟩ Sub.none Sx (.inl ⟨rfl, rfl, rfl⟩)
                ⟨rfl, fun b hb => by cases hb; rw [alloc_heap]; simp⟩ hS1 hS2 hS3
                (fun q m hqm => by
                  obtain ⟨i, p, u, k1, k2, k3, k4, k5, k6, k7, k8⟩ := hS4 q m hqm
                  refine ⟨i, p, u, k1, k2, k3, k4, k5, k6, hmn q m hqm, fun _ _ gm hgm => ?_⟩
                  have h8 := k8 gm hgm
                  simp only [cellAt, hhp]
                  rw [show (i + (([] : List τ.den).length : Int)).toNat = i.toNat by simp, Nat.zero_add, Array.getElem?_append_left, List.getElem?_toArray]
                  · exact h8
                  · rcases Nat.lt_or_ge (i.toNat * τ.sz + poff τ p) new.length with h9 | h9
                    · simpa using h9
                    · rw [List.getElem?_eq_none h9] at h8; cases h8)
                (by
                  have hC : CellsS (okOf st.regs φ) w1 τ (joinS ⟨some w1.heap.size, 0, cap, true⟩ Sub.none 0 Sx) ys new := ⟨hN.len, fun k hk => by
                    have := joinS_hi ⟨some w1.heap.size, 0, cap, true⟩ Sub.none Sx 0 k
                    rw [Nat.zero_add] at this
                    rw [this]
                    exact Ty.rd_mono' (fun b o h1 h2 => ⟨h1, by rw [g3]; exact h2⟩) _ _ _ _ (fun _ _ _ => by rw [g3]) (hN.rd k hk)⟩
                  exact hC.own (cap := cap) (e := e0) (rest := rest) ⟨rfl, rfl, rfl⟩ (by simpa using g1) hhp (by simpa [hszz] using g2))
                (fun b hb hne => by rw [alloc_heap, Array.getElem?_push, if_neg (Nat.ne_of_lt hb)]) rfl rfl rfl (by rw [alloc_heap]; simp)
              refine ⟨_, _, _, by rw [g7], R2, ?_⟩
              exact sl_new (u := τ) (xs := ys) (hlk _ _) (by rw [setLoc_same]; simp [Sub.addr, Sub.blk, Sub.off, Sub.cap, joinS, g3])
          · -- onto a row
            rename_i r
            split at h
            · cases h
            · rename_i hrx
              split at h
              · rename_i τ' xs0 hl
                split at h
                · rename_i xs hcast
                  cases h
                  obtain ⟨e1, e2⟩ := castTy_some hcast
                  cases e1
                  have e2 : xs0 = xs := e2
                  subst e2
                  have hroom : (List.length xs0 + ys.length) * i.bytes ≤ 140737488355328 := hvc _ (by simp)
                  have hS := hs _ _ _ hl
                  subst hS
                  have hrg : ownC _ w w τ (φ r) xs0 := R.lay.rg r _ hl
                  obtain ⟨old, hold, hO, hOc⟩ := run_rowCells (P := cx.P) hrg
                  rw [← hsz] at hold
                  obtain ⟨c1, c2⟩ := run_append_cases (P := cx.P) (w := w) (ty := ty) (base := (φ r).addr) (sLen := xs0.length) (sCap := (φ r).cap) (new := new) (old := old) hu hi hz (hszz.trans hsz.symm) hb1 hnew
                    hold hroom
                  have hnn : new.length = ys.length * τ.sz := hN.len
                  have hOo : old.length = xs0.length * τ.sz := hO.len
                  have hrx' : rx ≠ some r := hrx
                  have hnlt : ∀ (i : Int) (p : List Step) gm, new[i.toNat * τ.sz + poff τ p]? = some gm → i.toNat * τ.sz + poff τ p < new.length := fun i p gm h8 => by
                    rcases Nat.lt_or_ge (i.toNat * τ.sz + poff τ p) new.length with h9 | h9
                    · exact h9
                    · rw [List.getElem?_eq_none h9] at h8; cases h8
                  rcases Nat.lt_or_ge (φ r).cap (xs0.length + ys.length) with hgt | hle
                  · -- it grows
                    obtain ⟨cap, rest, w1, g1, g2, g3, g4, g5, g6, g7⟩ := c2 hgt
                    have R1 := R.heap g3 g4 g5 g6
                    have hhp : (w1.alloc (.cells (old.toArray ++ (new.toArray ++ rest.toArray)) e0)).heap[w1.heap.size]? = some (.cells ((old ++ new).toArray ++ rest.toArray) e0) := by
                      rw [alloc_heap, Array.getElem?_push, if_pos rfl]; simp
                    have R2 := R1.joined (w' := w1.alloc (.cells (old.toArray ++ (new.toArray ++ rest.toArray)) e0)) (some r) rx n hf (xs := xs0) (ys := ys) (H := H) ⟨some w1.heap.size, 0, cap, true⟩ (φ r) Sx (.inr ⟨r, rfl, hrx', hl, rfl⟩)
                      ⟨rfl, fun b hb => by cases hb; rw [alloc_heap]; simp⟩ hS1 hS2 hS3
                      (fun q m hqm => by
                        obtain ⟨i, p, u, k1, k2, k3, k4, k5, k6, k7, k8⟩ := hS4 q m hqm
                        refine ⟨i, p, u, k1, k2, k3, k4, k5, k6, hmn q m hqm, fun _ _ gm hgm => ?_⟩
                        have h8 := k8 gm hgm
                        have h9 := hnlt i p _ h8
                        have e3 : (i + (xs0.length : Int)).toNat = xs0.length + i.toNat := by omega
                        simp only [cellAt, hhp]
                        rw [e3, Nat.add_mul, Nat.zero_add, Array.getElem?_append_left (by simp only [List.size_toArray, List.length_append]; omega), List.getElem?_toArray, List.getElem?_append_right (by omega), hOo,
                          show xs0.length * τ.sz + i.toNat * τ.sz + poff τ p - xs0.length * τ.sz = i.toNat * τ.sz + poff τ p by omega]
                        exact h8)
                      (by
                        have hC : CellsS (okOf st.regs φ) w1 τ (joinS ⟨some w1.heap.size, 0, cap, true⟩ (φ r) xs0.length Sx) (xs0 ++ ys) (old ++ new) :=
                          CellsS.append (S1 := φ r) (S2 := Sx) ⟨hO.len, fun k hk => Ty.rd_mono' (fun b o h1 h2 => ⟨h1, by rw [g3]; exact h2⟩) _ _ _ _ (fun _ _ _ => by rw [g3]) (hO.rd k hk)⟩
                            ⟨hN.len, fun k hk => Ty.rd_mono' (fun b o h1 h2 => ⟨h1, by rw [g3]; exact h2⟩) _ _ _ _ (fun _ _ _ => by rw [g3]) (hN.rd k hk)⟩ (fun i hi => joinS_lo hi) (fun i _ => joinS_hi _ _ _ _ _)
                        exact hC.own (cap := cap) (e := e0) (rest := rest) ⟨rfl, rfl, rfl⟩ (by simpa using g1) hhp (by simpa [hszz] using g2))
                      (fun b hb hne => by rw [alloc_heap, Array.getElem?_push, if_neg (Nat.ne_of_lt hb)]) rfl rfl rfl (by rw [alloc_heap]; simp)
                    refine ⟨_, _, _, by rw [g7], R2, ?_⟩
                    exact sl_new (u := τ) (xs := List.append xs0 ys) (hlk _ _) (by rw [setLoc_same]; simp [Sub.addr, Sub.blk, Sub.off, Sub.cap, joinS, g3])
                  · -- there is room
                    have hrun := c1 hle
                    have hcap : ((φ r) []).cap = (φ r).cap := rfl
                    cases hbl : ((φ r) []).blk with
                    | none =>
                      have h3 := hrg.2
                      simp only [hbl] at h3
                      have hx0 : xs0 = [] := List.length_eq_zero_iff.1 (by omega)
                      have hy0 : ys = [] := List.length_eq_zero_iff.1 (by omega)
                      subst hx0; subst hy0
                      have haddr : (φ r).addr = none := by simp [Sub.addr, Sub.blk, hbl]
                      have hH0 : H = [] := by
                        cases H with
                        | nil => rfl
                        | cons q H =>
                          obtain ⟨i, p, u, _, h1, h2, _⟩ := hS4 q.1 q.2 (List.mem_cons_self ..)
                          simp at h2; omega
                      subst hH0
                      rw [haddr] at hrun ⊢
                      refine ⟨_, _, _, by simpa [backTo] using hrun, R.joined (w' := w) (some r) rx n hf (xs := []) (ys := []) (H := []) ⟨none, (φ r).off, (φ r).cap, true⟩ (φ r) Sx (.inr ⟨r, rfl, hrx', hl, rfl⟩) ⟨rfl, fun b hb => by cases hb⟩ hS1 hS2 hS3
                        (fun q m h => by cases h) ⟨by simp, by show ((φ r) []).cap = 0; exact h3⟩ (fun b _ _ => rfl) rfl rfl rfl (Nat.le_refl _), ?_⟩
                      exact sl_new (u := τ) (xs := []) (hlk _ _) (by rw [setLoc_same]; simp [Sub.addr, Sub.blk, Sub.off, Sub.cap, joinS])
                    | some b =>
                      have h3 := hrg.2
                      simp only [hbl] at h3
                      obtain ⟨cs, ty0, fz, f1, f2, f3, f4⟩ := h3
                      have haddr : (φ r).addr = some ⟨b, ((φ r) []).off, none⟩ := by simp [Sub.addr, Sub.blk, Sub.off, hbl]
                      rw [haddr] at hrun ⊢
                      simp only [backTo, add_mk, hsz] at hrun
                      have hfit : ((φ r) []).off + xs0.length * τ.sz + 0 + new.length ≤ cs.size := by
                        have h4 : (xs0.length + ys.length) * τ.sz ≤ ((φ r) []).cap * τ.sz := Nat.mul_le_mul_right _ hle
                        rw [Nat.add_mul] at h4
                        omega
                      obtain ⟨w', k1, k2⟩ := run_storeCells_wrote (P := cx.P) (b := b) (o0 := ((φ r) []).off + xs0.length * τ.sz) new 0 cs w f1 f2 hfit hone
                      rw [k1] at hrun
                      simp only [Result.andThen_ok, Nat.add_zero] at hrun k2
                      refine ⟨_, _, _, hrun, R.joined (w' := w') (some r) rx n hf (xs := xs0) (ys := ys) (H := H) ⟨some b, ((φ r) []).off, ((φ r) []).cap, true⟩ (φ r) Sx (.inr ⟨r, rfl, hrx', hl, rfl⟩)
                        ⟨rfl, fun b0 hb0 => by
                          cases hb0
                          have := R.lay.al r _ b hl ⟨[], hbl⟩
                          exact ⟨by rw [k2.size]; exact this, .inr hbl⟩⟩ hS1 hS2 hS3 (fun q m hqm => ?_) ?_ (fun b0 _ hne => k2.other b0 fun e0 => hne (by rw [e0])) k2.os k2.tape k2.output (by rw [k2.size]; exact Nat.le_refl _), ?_⟩
                      · obtain ⟨i, p, u, k1, k3, k4, k5, k6, k7, k8, k9⟩ := hS4 q m hqm
                        refine ⟨i, p, u, k1, k3, k4, k5, k6, k7, hmn q m hqm, fun _ _ gm hgm => ?_⟩
                        have h8 := k9 gm hgm
                        have h9 := hnlt i p _ h8
                        have e3 : (i + (xs0.length : Int)).toNat = xs0.length + i.toNat := by omega
                        simp only [cellAt, k2.at_]
                        rw [e3, Nat.add_mul, get_writeAt _ _ _ _ (by omega), if_pos (by omega),
                          show ((φ r) []).off + (xs0.length * τ.sz + i.toNat * τ.sz) + poff τ p - (((φ r) []).off + xs0.length * τ.sz) = i.toNat * τ.sz + poff τ p by omega]
                        exact h8
                      · have hlen : (List.append xs0 ys).length = xs0.length + ys.length := List.length_append ..
                        refine ⟨by rw [hlen]; exact hle, ?_⟩
                        show ∃ cs ty fz, w'.heap[b]? = _ ∧ _
                        refine ⟨_, ty0, fz, k2.at_, by rw [size_writeAt]; exact f2, by rw [size_writeAt]; exact f3, ?_⟩
                        intro k hk
                        have hk' : k < xs0.length + ys.length := by simpa using hk
                        show Ty.rd _ w τ _ _ (fun j => (writeAt cs _ new)[((φ r) []).off + k * τ.sz + j]?)
                        by_cases hkx : k < xs0.length
                        · have e : (List.append xs0 ys)[k]'hk = xs0[k] := List.getElem_append_left hkx
                          rw [e, joinS_lo hkx]
                          refine Ty.rd_congr _ _ _ _ _ (fun j hj => ?_) (f4 k hkx)
                          have := mul_lt_of hkx hj
                          rw [get_writeAt _ _ _ _ (by omega), if_neg (by omega)]
                        · have hi' : k - xs0.length < ys.length := by omega
                          have e : (List.append xs0 ys)[k]'hk = ys[k - xs0.length] := List.getElem_append_right (by omega)
                          have e2 := joinS_hi ⟨some b, ((φ r) []).off, ((φ r) []).cap, true⟩ (φ r) Sx xs0.length (k - xs0.length)
                          rw [show xs0.length + (k - xs0.length) = k by omega] at e2
                          rw [e, e2]
                          refine Ty.rd_congr _ _ _ _ _ (fun j hj => ?_) (hN.rd _ hi')
                          have hlt := mul_lt_of hi' hj
                          have hle2 : xs0.length * τ.sz ≤ k * τ.sz := Nat.mul_le_mul_right _ (by omega)
                          have hsub := Nat.sub_mul k xs0.length τ.sz
                          rw [get_writeAt _ _ _ _ (by omega), if_pos (by omega)]
                          congr 1
                          omega
                      · exact sl_new (u := τ) (xs := List.append xs0 ys) (hlk _ _) (by rw [setLoc_same]; simp [Sub.addr, Sub.blk, Sub.off, Sub.cap, joinS])
                · cases h
              · cases h
          · cases h
        · cases h
      · cases h
    · cases h
  · cases h

end Go.Lift
/- Reslicing, lengths, literals, parts, conversions: abstract, and that they tell what the machine does. -/
namespace Go.Lift
open Go

/-! ### lengths -/
def capV (P : Program) (t : TypeId) (x : SV) : Option SV :=
  match P.underlying t with
  | some (.slice _) => match x with
    | .nilsl => some (vI .i64 0)
    | _ => none
  | _ => none
theorem capV_sound {cx : Cx} {φ : Phi} {st : St} {w : World} {t ty : TypeId} {x v : SV} {X : Value}
    (h : capV cx.P t x = some v) (hx : SVRel st.regs φ (okOf st.regs φ) w x X) :
    ∃ V, (Builtin.cap_ #[t] ty #[X]).run cx.P w = .ok V w ∧ SVRel st.regs φ (okOf st.regs φ) w v V := by
  unfold capV at h
  split at h
  · rename_i e hu
    split at h
    · cases h
      have hX : X = .slice none 0 0 := hx
      subst hX
      exact ⟨_, by simp [Builtin.cap_, run_underlying hu, goInt], VRel.of_int _ _ _ _⟩
    · cases h
  · cases h

/-- How many entries a map has. -/
def mlen (k v : Ty) (o : Option (List (k.den × v.den))) : Int := match o with
  | some es => List.length es
  | none => 0
def lenV (P : Program) (rs : Regs) (t : TypeId) (x : SV) : Option SV :=
  match P.underlying t with
  | some .string => match x with
    | .val .str s => some (vI .i64 s.size)
    | _ => none
  | some (.slice _) => match x with
    | .nilsl => some (vI .i64 0)
    | .sl r => match look rs r with
      | some (.row _ xs _) => some (vI .i64 xs.length)
      | _ => none
    | .slv r lo hi => match look rs r with
      | some (.row _ _ _) => some (vI .i64 (hi - lo))
      | _ => none
    | x => match rowOf rs x with
      | some ⟨_, xs⟩ => some (vI .i64 xs.length)
      | none => none
  | some (.map _ _) => match x with
    | .mp r => match look rs r with
      | some (.mp k v o _) => some (vI .i64 (mlen k v o))
      | _ => none
    | _ => none
  | _ => none
theorem lenV_sound {cx : Cx} {φ : Phi} {st : St} {a : Act} {w : World} (R : RelF cx φ st a w) {t ty : TypeId} {x v : SV} {X : Value}
    (h : lenV cx.P st.regs t x = some v) (hx : SVRel st.regs φ (okOf st.regs φ) w x X) :
    ∃ V, (Builtin.len_ #[t] ty #[X]).run cx.P w = .ok V w ∧ SVRel st.regs φ (okOf st.regs φ) w v V := by
  unfold lenV at h
  split at h
  · rename_i hu
    split at h
    · rename_i s
      cases h
      have eX : X = .string s := VRel.str_eq hx
      subst eX
      exact ⟨_, by simp [Builtin.len_, run_underlying hu, goInt], VRel.of_int _ _ _ _⟩
    · cases h
  · rename_i e hu
    split at h
    · cases h
      have hX : X = .slice none 0 0 := hx
      subst hX
      exact ⟨_, by simp [Builtin.len_, run_underlying hu, goInt], VRel.of_int _ _ _ _⟩
    · split at h
      · rename_i hl
        cases h
        have hX := hx _ _ _ hl
        subst hX
        exact ⟨_, by simp [Builtin.len_, run_underlying hu, goInt], VRel.of_int _ _ _ _⟩
      · cases h
    · split at h
      · rename_i hl
        cases h
        obtain ⟨h0, h1, h2, o, cap, hX, _⟩ := hx _ _ _ hl
        subst hX
        have e : ∀ x : Int, 0 ≤ x → ((x.toNat : Nat) : Int) = x := fun x h => Int.toNat_of_nonneg h
        refine ⟨_, ?_, VRel.of_int _ _ _ _⟩
        rw [← e (_ - _) (by omega)]
        simp [Builtin.len_, run_underlying hu, goInt]
      · cases h
    · split at h
      · rename_i u xs hr
        cases h
        obtain ⟨ad, cap, rfl, _, _⟩ := rowOf_sound R hr hx
        exact ⟨_, by simp [Builtin.len_, run_underlying hu, goInt], VRel.of_int _ _ _ _⟩
      · cases h
  · rename_i hu
    split at h
    · rename_i r
      split at h
      · rename_i k v o H hl
        cases h
        have eX : X = .map (φ r).blk := hx _ _ _ _ hl
        subst eX
        have hat := R.lay.rg r _ hl
        cases o with
        | none =>
          have hb : (φ r []).blk = none := hat
          have hb' : (φ r).blk = none := hb
          rw [hb']
          exact ⟨_, by simp [Builtin.len_, run_underlying hu, goInt]; rfl, VRel.of_int _ _ _ _⟩
        | some es =>
          obtain ⟨_, b, ms, clock, hb, hh, hs, _⟩ := hat
          have hb' : (φ r).blk = some b := hb
          rw [hb']
          refine ⟨.int .i64 (ms.size : Int), by simp [Builtin.len_, run_underlying hu, goInt, MapKept.run_getObj_map hh, Result.andThen], ?_⟩
          rw [hs]
          exact VRel.of_int _ _ _ _
      · cases h
    · cases h
  · cases h

/-! ### reslicing -/
def optI : Option SV → Option (Option Int)
  | none => some none
  | some (.val (.int _) i) => some (some i)
  | _ => none

/-- What the bounds are, and what they must be; n: the length. -/
def cutVC (n : Int) (lo hi mx : Option Int) : List Prop :=
  let l := lo.getD 0
  let h := hi.getD n
  match mx with
  | none => [0 ≤ l, l ≤ h, h ≤ n]
  | some m => [0 ≤ l, l ≤ h, h ≤ m, m ≤ n]

def OptV (o : Option Int) (v : Option Value) : Prop :=
  match o, v with
  | none, none => True
  | some i, some v => ∃ k, v = .int k i
  | _, _ => False
theorem optI_sound {rs : Regs} {φ : Phi} {ok : Nat → Prop} {w : World} {x : Option SV} {o : Option Int} {X : Option Value} (h : optI x = some o)
    (hx : match x, X with | none, none => True | some x, some X => SVRel rs φ ok w x X | _, _ => False) : OptV o X := by
  unfold optI at h
  split at h
  · cases h
    cases X with
    | none => trivial
    | some X => exact hx.elim
  · rename_i k i
    cases h
    cases X with
    | none => exact hx.elim
    | some X => exact ⟨k, VRel.int_eq hx⟩
  · cases h

theorem run_bounds {P : Program} {w : World} {b : Bool} {len cap : Nat} {lo hi mx : Option Int} {Lo Hi Mx : Option Value} (h1 : OptV lo Lo) (h2 : OptV hi Hi) (h3 : OptV mx Mx)
    (hmx : mx.isSome = true → hi.isSome = true) (hlc : len ≤ cap) (hvc : ∀ p ∈ cutVC (len : Int) lo hi mx, p) :
    (Instr.sliceBounds b len cap Lo Hi Mx).run P w = .ok ((lo.getD 0).toNat, (hi.getD (len : Int)).toNat, (mx.getD (cap : Int)).toNat) w := by
  have hb : ∀ (k : IntKind) (i : Int) (y : Nat) (c : BoundsCode), 0 ≤ i → i ≤ (y : Int) → (Instr.sliceBound (.int k i) y c).run P w = .ok i.toNat w := by
    intro k i y c g0 g1
    simp [Instr.sliceBound, asIntOf, g0, g1]
  cases mx with
  | none =>
    cases Mx with
    | some _ => exact h3.elim
    | none =>
      have v0 := hvc _ (List.mem_cons_self ..)
      have v1 := hvc _ (List.mem_cons_of_mem _ (List.mem_cons_self ..))
      have v2 := hvc _ (List.mem_cons_of_mem _ (List.mem_cons_of_mem _ (List.mem_cons_self ..)))
      cases hi with
      | none =>
        cases Hi with
        | some _ => exact h2.elim
        | none =>
          cases lo with
          | none =>
            cases Lo with
            | some _ => exact h1.elim
            | none => simp [Instr.sliceBounds]
          | some l =>
            cases Lo with
            | none => exact h1.elim
            | some L =>
              obtain ⟨k, rfl⟩ := h1
              simp only [Option.getD_some, Option.getD_none] at v0 v1 v2
              simp [Instr.sliceBounds, hb k l len _ v0 v1]
      | some h =>
        cases Hi with
        | none => exact h2.elim
        | some H =>
          obtain ⟨kh, rfl⟩ := h2
          simp only [Option.getD_some] at v1 v2
          have e0 : (0 : Int) ≤ h := Int.le_trans v0 v1
          have e1 : h ≤ (cap : Int) := by omega
          have e2 : (h.toNat : Int) = h := Int.toNat_of_nonneg e0
          cases lo with
          | none =>
            cases Lo with
            | some _ => exact h1.elim
            | none => simp [Instr.sliceBounds, hb kh h cap _ e0 e1]
          | some l =>
            cases Lo with
            | none => exact h1.elim
            | some L =>
              obtain ⟨k, rfl⟩ := h1
              simp only [Option.getD_some] at v0 v1
              simp [Instr.sliceBounds, hb kh h cap _ e0 e1, hb k l h.toNat _ v0 (by omega)]
  | some m =>
    cases Mx with
    | none => exact h3.elim
    | some M =>
      obtain ⟨km, rfl⟩ := h3
      cases hi with
      | none => simp at hmx
      | some h =>
        cases Hi with
        | none => exact h2.elim
        | some H =>
          obtain ⟨kh, rfl⟩ := h2
          have v0 := hvc _ (List.mem_cons_self ..)
          have v1 := hvc _ (List.mem_cons_of_mem _ (List.mem_cons_self ..))
          have v2 := hvc _ (List.mem_cons_of_mem _ (List.mem_cons_of_mem _ (List.mem_cons_self ..)))
          have v3 := hvc _ (List.mem_cons_of_mem _ (List.mem_cons_of_mem _ (List.mem_cons_of_mem _ (List.mem_cons_self ..))))
          simp only [Option.getD_some] at v0 v1 v2 v3
          have e0 : (0 : Int) ≤ h := Int.le_trans v0 v1
          have e1 : (0 : Int) ≤ m := Int.le_trans e0 v2
          have e2 : (h.toNat : Int) = h := Int.toNat_of_nonneg e0
          have e3 : (m.toNat : Int) = m := Int.toNat_of_nonneg e1
          cases lo with
          | none =>
            cases Lo with
            | some _ => exact h1.elim
            | none => simp [Instr.sliceBounds, hb km m cap _ e1 (by omega), hb kh h m.toNat _ e0 (by omega)]
          | some l =>
            cases Lo with
            | none => exact h1.elim
            | some L =>
              obtain ⟨k, rfl⟩ := h1
              simp only [Option.getD_some] at v0 v1
              simp [Instr.sliceBounds, hb km m cap _ e1 (by omega), hb kh h m.toNat _ e0 (by omega), hb k l h.toNat _ v0 (by omega)]

def cutL {α : Type} (xs : List α) (lo hi : Option Int) : List α := (xs.take (hi.getD (xs.length : Int)).toNat).drop (lo.getD 0).toNat

def sliceV (vw : Bool) (P : Program) (rs : Regs) (t : TypeId) (x : SV) (lo hi mx : Option SV) (n : Nat) : Option (List Prop × SV × Eff) :=
  match optI lo, optI hi, optI mx with
  | some lo, some hi, some mx =>
    if mx.isSome = true ∧ hi.isSome = false then none else
    match P.underlying t with
    | some .string => match x with
      | .val .str s => match mx with
        | none => some (cutVC (s.size : Int) lo hi none, .val .str (s.extract (lo.getD 0).toNat (hi.getD (s.size : Int)).toNat), [])
        | some _ => none
      | _ => none
    | some (.slice e) => match x with
      | .val (.ro τ) xs => if sizeT P e = some τ.sz then some (cutVC (List.length xs : Int) lo hi mx, .val (.ro τ) (cutL (α := τ.den) xs lo hi), []) else none
      | .sl r => match look rs r with
        | some (.row τ xs H) => if sizeT P e = some τ.sz then (if vw = true then some (cutVC (xs.length : Int) lo hi mx, .slv r (lo.getD 0) (hi.getD (xs.length : Int)), []) else
            if τ.plain = true then some (cutVC (xs.length : Int) lo hi mx, .sl n, [.set (some r) n (.row τ (cutL xs lo hi) [])]) else none) else none
        | _ => none
      | .slv r l0 h0 => match look rs r with
        | some (.row τ xs H) => if sizeT P e = some τ.sz then some (cutVC (h0 - l0) lo hi mx, .slv r (l0 + lo.getD 0) (l0 + hi.getD (h0 - l0)), []) else none
        | _ => none
      | .nilsl => match sizeT P e with
        | some _ => some (cutVC ((0 : Nat) : Int) lo hi mx, .nilsl, [])
        | none => none
      | _ => none
    | some (.array m e) => match x with
      | .addr r [] => match look rs r with
        | some (.box (.arr m' τ) xs _) => if sizeT P e = some τ.sz ∧ m = m' ∧ τ.plain = true then some (cutVC (m : Int) lo hi mx, .sl n, [.set (some r) n (.row τ (cutL (α := τ.den) xs lo hi) [])]) else none
        | _ => none
      | _ => none
    | _ => none
  | _, _, _ => none

theorem cutL_get {α : Type} {xs : List α} {lo hi : Option Int} (i : Nat) (h : i < (cutL xs lo hi).length) : ∃ h' : (lo.getD 0).toNat + i < xs.length, (cutL xs lo hi)[i] = xs[(lo.getD 0).toNat + i] := by
  simp only [cutL, List.length_drop, List.length_take] at h
  refine ⟨by omega, ?_⟩
  simp [cutL]
theorem cutVC_bounds {n : Nat} {lo hi mx : Option Int} (h : ∀ p ∈ cutVC (n : Int) lo hi mx, p) : 0 ≤ lo.getD 0 ∧ lo.getD 0 ≤ hi.getD (n : Int) ∧ hi.getD (n : Int) ≤ (n : Int) ∧ (∀ m, mx = some m → hi.getD (n : Int) ≤ m ∧ m ≤ (n : Int)) := by
  cases mx with
  | none =>
    have v0 := h _ (List.mem_cons_self ..)
    have v1 := h _ (List.mem_cons_of_mem _ (List.mem_cons_self ..))
    have v2 := h _ (List.mem_cons_of_mem _ (List.mem_cons_of_mem _ (List.mem_cons_self ..)))
    exact ⟨v0, v1, v2, fun m hm => by cases hm⟩
  | some m =>
    have v0 := h _ (List.mem_cons_self ..)
    have v1 := h _ (List.mem_cons_of_mem _ (List.mem_cons_self ..))
    have v2 := h _ (List.mem_cons_of_mem _ (List.mem_cons_of_mem _ (List.mem_cons_self ..)))
    have v3 := h _ (List.mem_cons_of_mem _ (List.mem_cons_of_mem _ (List.mem_cons_of_mem _ (List.mem_cons_self ..))))
    exact ⟨v0, v1, Int.le_trans v2 v3, fun m' hm => by cases hm; exact ⟨v2, v3⟩⟩

/-- The machine's reslice of a slice of which the block is known. -/
theorem run_slice_cut {P : Program} {w : World} {t e : TypeId} {sz : Nat} {ad : Option Addr} {len cap : Nat} {lo hi mx : Option Int} {Lo Hi Mx : Option Value}
    (hu : P.underlying t = some (.slice e)) (hs : sizeT P e = some sz) (h1 : OptV lo Lo) (h2 : OptV hi Hi) (h3 : OptV mx Mx)
    (hmx : mx.isSome = true → hi.isSome = true) (hlc : len ≤ cap) (hvc : ∀ p ∈ cutVC (len : Int) lo hi mx, p) :
    (Instr.sliceAt t (.slice ad len cap) Lo Hi Mx).run P w =
      .ok (.slice (if (mx.getD (cap : Int)).toNat = (lo.getD 0).toNat then ad else ad.map (·.add ((lo.getD 0).toNat * sz))) ((hi.getD (len : Int)).toNat - (lo.getD 0).toNat) ((mx.getD (cap : Int)).toNat - (lo.getD 0).toNat)) w := by
  have hb := run_bounds (P := P) (w := w) (b := true) h1 h2 h3 hmx hlc hvc
  simp [Instr.sliceAt, run_underlying hu, Instr.slice, hb, run_sizeOf hs]

theorem sliceV_sound {cx : Cx} {φ : Phi} {st : St} {a : Act} {w : World} (R : RelF cx φ st a w) {n : Nat} (hf : FreshN cx st n) {vw : Bool} {t : TypeId} {x v : SV} {lo hi mx : Option SV} {vc : List Prop} {e : Eff} {X : Value} {Lo Hi Mx : Option Value}
    (h : sliceV vw cx.P st.regs t x lo hi mx n = some (vc, v, e)) (hvc : ∀ p ∈ vc, p) (hx : SVRel st.regs φ (okOf st.regs φ) w x X)
    (h1 : ∀ o, optI lo = some o → OptV o Lo) (h2 : ∀ o, optI hi = some o → OptV o Hi) (h3 : ∀ o, optI mx = some o → OptV o Mx) :
    ∃ V φ', (Instr.sliceAt t X Lo Hi Mx).run cx.P w = .ok V w ∧ RelF cx φ' { st with regs := e.app st.regs } a w ∧ SVRel (e.app st.regs) φ' (okOf (e.app st.regs) φ') w v V := by
  unfold sliceV at h
  split at h
  · rename_i lo hi mx el eh em
    have h1 := h1 _ el
    have h2 := h2 _ eh
    have h3 := h3 _ em
    split at h
    · cases h
    · rename_i hnm
      have hmx : mx.isSome = true → hi.isSome = true := by
        intro hm
        cases hh : hi.isSome with
        | true => rfl
        | false => exact (hnm ⟨hm, hh⟩).elim
      split at h
      · rename_i hu
        split at h
        · rename_i s
          split at h
          · cases h
            have eX : X = .string s := VRel.str_eq hx
            subst eX
            have hM : Mx = none := by
              cases Mx with
              | none => rfl
              | some _ => exact h3.elim
            subst hM
            have hb := run_bounds (P := cx.P) (w := w) (b := false) h1 h2 h3 hmx (Nat.le_refl _) hvc
            refine ⟨_, φ, ?_, R, VRel.of_str _ _ _⟩
            simp only [Instr.sliceAt, run_underlying hu, Instr.slice, Sem.run_bind, Result.andThen_ok]
            simp [hb]
          · cases h
        · cases h
      · rename_i e0 hu
        split at h
        · rename_i τ xs
          split at h
          · rename_i hs
            cases h
            have hV : VRel _ _ _ _ _ := hx
            obtain ⟨a0, cap, g0, g1, g2⟩ := hV.1
            rw [hV.cells_one rfl] at g0
            have hX : X = .slice a0 (List.length xs) cap := by simpa using g0
            subst hX
            have hrun := run_slice_cut (P := cx.P) (w := w) (ad := a0) (cap := cap) hu hs h1 h2 h3 hmx g1 hvc
            obtain ⟨b0, b1, b2, b3⟩ := cutVC_bounds hvc
            have hlen : (cutL (α := τ.den) xs lo hi).length = (hi.getD (List.length xs : Int)).toNat - (lo.getD 0).toNat := by
              simp only [cutL, List.length_drop, List.length_take]; omega
            have hcap : (hi.getD (List.length xs : Int)).toNat ≤ (mx.getD (cap : Int)).toNat := by
              cases mx with
              | none => simp only [Option.getD_none]; omega
              | some m => have := (b3 m rfl).1; simp only [Option.getD_some]; omega
            refine ⟨_, φ, hrun, R, ⟨⟨_, _, by rw [← hlen]; rfl, by rw [hlen]; omega, ?_⟩, rfl, rfl⟩⟩
            rcases Nat.eq_zero_or_pos (cutL (α := τ.den) xs lo hi).length with hz | hz
            · exact .inl (List.length_eq_zero_iff.1 hz)
            · right
              rcases g2 with g2 | ⟨b, off, cs, ty, fz, f1, f2, f3, f4⟩
              · exfalso
                have hl0 : List.length xs = 0 := by rw [g2]; rfl
                omega
              · subst f1
                have hne : ¬ ((mx.getD (cap : Int)).toNat = (lo.getD 0).toNat) := by omega
                rw [if_neg hne]
                refine ⟨b, off + (lo.getD 0).toNat * τ.sz, cs, ty, fz, by simp [add_mk], f2, f3, fun i hi' => ?_⟩
                obtain ⟨hlt, e1⟩ := cutL_get (α := τ.den) i hi'
                rw [e1]
                refine Ty.rd_congr _ _ _ _ _ (fun j hj => ?_) (f4 _ hlt)
                congr 1
                rw [Nat.add_mul]
                omega
          · cases h
        · rename_i r
          split at h
          · rename_i τ xs H hl
            split at h
            · rename_i hs
              split at h
              · cases h
                have hX := hx _ _ _ hl
                subst hX
                have hxc : xs.length ≤ (φ r).cap := (R.lay.rg r _ hl).1
                have hrun := run_slice_cut (P := cx.P) (w := w) (ad := (φ r).addr) (cap := (φ r).cap) hu hs h1 h2 h3 hmx hxc hvc
                obtain ⟨b0, b1, b2, b3⟩ := cutVC_bounds hvc
                have hcap : (hi.getD (xs.length : Int)).toNat ≤ (mx.getD ((φ r).cap : Int)).toNat ∧ (mx.getD ((φ r).cap : Int)).toNat ≤ (φ r).cap := by
                  cases mx with
                  | none => simp only [Option.getD_none]; omega
                  | some m => have := (b3 m rfl); simp only [Option.getD_some]; omega
                refine ⟨_, φ, hrun, R, fun t' xs' H' hl' => ?_⟩
                have hl' : look st.regs r = _ := hl'
                rw [hl] at hl'; cases hl'
                refine ⟨b0, b1, b2, if (mx.getD ((φ r).cap : Int)).toNat = (lo.getD 0).toNat then (φ r).off else (φ r).off + (lo.getD 0).toNat * τ.sz, (mx.getD ((φ r).cap : Int)).toNat - (lo.getD 0).toNat, ?_, by omega, by omega, ?_⟩
                · rw [show (hi.getD (xs.length : Int) - lo.getD 0).toNat = (hi.getD (xs.length : Int)).toNat - (lo.getD 0).toNat by omega]
                  congr 1
                  split
                  · rfl
                  · simp only [Sub.addr, Option.map_map]
                    cases (φ r).blk <;> simp [add_mk]
                · split
                  · right; exact ⟨by omega, Nat.le_add_right _ _⟩
                  · exact .inl rfl
              · split at h
                rotate_left
                · cases h
                rename_i hpl
                cases h
                have hX := hx _ _ _ hl
                subst hX
                have hrg : ownC _ w w τ (φ r) xs := R.lay.rg r _ hl
                have hxc : xs.length ≤ (φ r).cap := hrg.1
                have hrun := run_slice_cut (P := cx.P) (w := w) (ad := (φ r).addr) (cap := (φ r).cap) hu hs h1 h2 h3 hmx hxc hvc
                obtain ⟨b0, b1, b2, b3⟩ := cutVC_bounds hvc
                have hlen : (cutL xs lo hi).length = (hi.getD (xs.length : Int)).toNat - (lo.getD 0).toNat := by
                  simp only [cutL, List.length_drop, List.length_take]; omega
                have hcap : (hi.getD (xs.length : Int)).toNat ≤ (mx.getD ((φ r).cap : Int)).toNat ∧ (mx.getD ((φ r).cap : Int)).toNat ≤ (φ r).cap := by
                  cases mx with
                  | none => simp only [Option.getD_none]; omega
                  | some m => have := (b3 m rfl); simp only [Option.getD_some]; omega
                have h3' := hrg.2
                have hlt : ∀ b, (φ r).blk = some b → b < w.heap.size := fun b hb => R.lay.al r _ b hl (Sub.has_blk hb)
                have hcapd : ((φ r) []).cap = (φ r).cap := rfl
                have hoffd : ((φ r) []).off = (φ r).off := rfl
                by_cases hne : (mx.getD ((φ r).cap : Int)).toNat = (lo.getD 0).toNat
                · rw [if_pos hne] at hrun
                  refine ⟨_, _, hrun, R.step1 (w' := w) (some r) n (.row τ (cutL xs lo hi) []) (φ r).blk (φ r).off ((mx.getD ((φ r).cap : Int)).toNat - (lo.getD 0).toNat) (fun b hb => .inr ⟨r, _, rfl, hl, Sub.has_blk hb⟩) (fun b _ _ => rfl) (.inl hf.1) (fun l0 hl => (hf.2 l0 hl).elim) rfl ?_ rfl rfl rfl (Nat.le_refl _), ?_⟩
                  · refine ⟨by show (cutL xs lo hi).length ≤ _; rw [hlen]; show _ ≤ (mx.getD ((φ r).cap : Int)).toNat - _; omega, ?_⟩
                    rw [mkSub_root]
                    cases hbl : ((φ r) []).blk with
                    | none => simp only [hbl, Sub.blk] at h3' ⊢; omega
                    | some b =>
                      simp only [hbl, Sub.blk] at h3' ⊢
                      obtain ⟨cs, ty, fz, f1, f2, f3, f4⟩ := h3'
                      refine ⟨cs, ty, fz, f1, f2, ?_, fun i hi' => ?_⟩
                      · rw [hne]; simp only [Nat.sub_self, Nat.zero_mul, Nat.add_zero]
                        have := Nat.zero_le (((φ r) []).cap * τ.sz); omega
                      · rw [hlen] at hi'; omega
                  · exact sl_new (u := τ) (xs := cutL xs lo hi) (by rw [Eff.app, Eff.app, EffI.app, look_upd, if_pos rfl]) (by rw [setLoc_same]; simp [Sub.addr, hlen])
                · rw [if_neg hne] at hrun
                  refine ⟨_, _, hrun, R.step1 (w' := w) (some r) n (.row τ (cutL xs lo hi) []) (φ r).blk ((φ r).off + (lo.getD 0).toNat * τ.sz) ((mx.getD ((φ r).cap : Int)).toNat - (lo.getD 0).toNat) (fun b hb => .inr ⟨r, _, rfl, hl, Sub.has_blk hb⟩) (fun b _ _ => rfl) (.inl hf.1) (fun l0 hl => (hf.2 l0 hl).elim) rfl ?_ rfl rfl rfl (Nat.le_refl _), ?_⟩
                  · refine ⟨by show (cutL xs lo hi).length ≤ _; rw [hlen]; show _ ≤ (mx.getD ((φ r).cap : Int)).toNat - _; omega, ?_⟩
                    rw [mkSub_root]
                    cases hbl : ((φ r) []).blk with
                    | none => simp only [hbl, Sub.blk] at h3' ⊢; omega
                    | some b =>
                      simp only [hbl, Sub.blk] at h3' ⊢
                      obtain ⟨cs, ty, fz, f1, f2, f3, f4⟩ := h3'
                      refine ⟨cs, ty, fz, f1, f2, ?_, fun i hi' => ?_⟩
                      · have h4 : (mx.getD ((φ r).cap : Int)).toNat * τ.sz ≤ (φ r).cap * τ.sz := Nat.mul_le_mul_right _ hcap.2
                        have h5 : (lo.getD 0).toNat * τ.sz ≤ (mx.getD ((φ r).cap : Int)).toNat * τ.sz := Nat.mul_le_mul_right _ (by omega)
                        rw [Nat.sub_mul]
                        rw [hcapd, hoffd] at f3
                        omega
                      · obtain ⟨hlt, e1⟩ := cutL_get i hi'
                        rw [e1, mkSub_sub]
                        refine Ty.rd_congr _ _ _ _ _ (fun j hj => ?_) (Ty.rd_plain _ _ _ _ _ hpl (f4 _ hlt))
                        rw [hoffd]
                        congr 1
                        rw [Nat.add_mul]
                        omega
                  · refine sl_new (u := τ) (xs := cutL xs lo hi) (by rw [Eff.app, Eff.app, EffI.app, look_upd, if_pos rfl]) ?_
                    rw [setLoc_same]
                    cases hbl : (φ r).blk <;> simp [Sub.addr, hlen, hbl, add_mk]
            · cases h
          · cases h
        · rename_i r l0 h0
          split at h
          · rename_i τ xs H hl
            split at h
            · rename_i hs
              cases h
              obtain ⟨k0, k1, k2, o, cap, hX, k3, k4, k5⟩ := hx _ _ _ hl
              subst hX
              have hvc' : ∀ p ∈ cutVC (((h0 - l0).toNat : Nat) : Int) lo hi mx, p := by rw [show (((h0 - l0).toNat : Nat) : Int) = h0 - l0 by omega]; exact hvc
              have hrun := run_slice_cut (P := cx.P) (w := w) (ad := (φ r).blk.map fun b => (⟨b, o, none⟩ : Addr)) (cap := cap) hu hs h1 h2 h3 hmx k3 hvc'
              obtain ⟨b0, b1, b2, b3⟩ := cutVC_bounds hvc'
              rw [show (((h0 - l0).toNat : Nat) : Int) = h0 - l0 by omega] at b1 b2 b3 hrun
              have hcap : (hi.getD (h0 - l0)).toNat ≤ (mx.getD (cap : Int)).toNat ∧ (mx.getD (cap : Int)).toNat ≤ cap := by
                cases mx with
                | none => simp only [Option.getD_none]; omega
                | some m => have := (b3 m rfl); simp only [Option.getD_some]; omega
              refine ⟨_, φ, hrun, R, fun t' xs' H' hl' => ?_⟩
              have hl' : look st.regs r = _ := hl'
              rw [hl] at hl'; cases hl'
              refine ⟨by omega, by omega, by omega, if (mx.getD (cap : Int)).toNat = (lo.getD 0).toNat then o else o + (lo.getD 0).toNat * τ.sz, (mx.getD (cap : Int)).toNat - (lo.getD 0).toNat, ?_, by omega, by omega, ?_⟩
              · rw [show (l0 + hi.getD (h0 - l0) - (l0 + lo.getD 0)).toNat = (hi.getD (h0 - l0)).toNat - (lo.getD 0).toNat by omega]
                congr 1
                split
                · rfl
                · simp only [Option.map_map]
                  cases (φ r).blk <;> simp [add_mk]
              · have h4 : l0.toNat * τ.sz ≤ (φ r).cap * τ.sz := Nat.mul_le_mul_right _ (by omega)
                rcases k5 with k5 | ⟨k5, k6⟩
                · split
                  · right
                    exact ⟨by omega, by omega⟩
                  · left
                    rw [k5, show (l0 + lo.getD 0).toNat = l0.toNat + (lo.getD 0).toNat by omega, Nat.add_mul]; omega
                · right
                  have hlz : (lo.getD 0).toNat = 0 := by omega
                  refine ⟨by omega, ?_⟩
                  split
                  · exact k6
                  · rw [hlz]; omega
            · cases h
          · cases h
        · split at h
          · rename_i sz hs
            cases h
            have hX : X = .slice none 0 0 := hx
            subst hX
            have hrun := run_slice_cut (P := cx.P) (w := w) (ad := none) (len := 0) (cap := 0) hu hs h1 h2 h3 hmx (Nat.le_refl _) hvc
            obtain ⟨b0, b1, b2, b3⟩ := cutVC_bounds hvc
            refine ⟨_, φ, hrun, R, ?_⟩
            have hm0 : (mx.getD ((0 : Nat) : Int)).toNat = 0 := by
              cases mx with
              | none => rfl
              | some m => have := (b3 m rfl); simp only [Option.getD_some]; omega
            show _ = _
            rw [hm0, show (hi.getD ((0 : Nat) : Int)).toNat = 0 from by omega, show (lo.getD 0).toNat = 0 from by omega]
            simp
          · cases h
        · cases h
      · rename_i m e0 hu
        split at h
        · rename_i r
          split at h
          · rename_i m' τ xs H hl
            split at h
            · rename_i hc
              obtain ⟨hs, rfl, hpl⟩ := hc
              cases h
              obtain ⟨b, g1, g2, g3⟩ := hx _ hl
              simp only [poff] at g3
              subst g3
              obtain ⟨f0, b', cs, ty, fz, f1, f2, f3, f4, f5⟩ := R.lay.rg r _ hl
              have g1' : ((φ r) []).blk = some b := g1
              rw [g1'] at f1; cases f1
              have hb := run_bounds (P := cx.P) (w := w) (b := false) h1 h2 h3 hmx (Nat.le_refl m) hvc
              obtain ⟨b0, b1, b2, b3⟩ := cutVC_bounds hvc
              have hxl : List.length xs = m := f5.1
              have hlen : (cutL (α := τ.den) xs lo hi).length = (hi.getD (m : Int)).toNat - (lo.getD 0).toNat := by
                simp only [cutL, List.length_drop, List.length_take, hxl]; omega
              have hcap : (hi.getD (m : Int)).toNat ≤ (mx.getD (m : Int)).toNat ∧ (mx.getD (m : Int)).toNat ≤ m := by
                cases mx with
                | none => simp only [Option.getD_none]; omega
                | some k => have := (b3 k rfl); simp only [Option.getD_some]; omega
              have hsz : cs.size = m * τ.sz := f4
              have hrun : (Instr.sliceAt t (.pointer (some ⟨b, 0, none⟩)) Lo Hi Mx).run cx.P w =
                  .ok (.slice (some ⟨b, if (mx.getD (m : Int)).toNat = (lo.getD 0).toNat then 0 else (lo.getD 0).toNat * τ.sz, none⟩) ((hi.getD (m : Int)).toNat - (lo.getD 0).toNat) ((mx.getD (m : Int)).toNat - (lo.getD 0).toNat)) w := by
                simp only [Instr.sliceAt, run_underlying hu, Sem.run_bind, Result.andThen_ok, Instr.sureAddr, Sem.run_pure, hb, run_sizeOf hs]
                split <;> simp [add_mk]
              refine ⟨_, _, hrun, R.step1 (w' := w) (some r) n (.row τ (cutL (α := τ.den) xs lo hi) []) (some b) (if (mx.getD (m : Int)).toNat = (lo.getD 0).toNat then 0 else (lo.getD 0).toNat * τ.sz) ((mx.getD (m : Int)).toNat - (lo.getD 0).toNat)
                (fun b0 hb0 => .inr ⟨r, _, rfl, hl, Sub.has_blk (by rw [← hb0]; exact g1)⟩) (fun b _ _ => rfl) (.inl hf.1) (fun l0 hl => (hf.2 l0 hl).elim) rfl ?_ rfl rfl rfl (Nat.le_refl _), ?_⟩
              · refine ⟨by show (cutL (α := τ.den) xs lo hi).length ≤ _; rw [hlen]; show _ ≤ (mx.getD (m : Int)).toNat - _; omega, ?_⟩
                rw [mkSub_root]
                refine ⟨cs, ty, fz, f2, f3, ?_, fun i hi' => ?_⟩
                · have h4 : (mx.getD (m : Int)).toNat * τ.sz ≤ m * τ.sz := Nat.mul_le_mul_right _ hcap.2
                  have h5 : (lo.getD 0).toNat * τ.sz ≤ (mx.getD (m : Int)).toNat * τ.sz := Nat.mul_le_mul_right _ (by omega)
                  have key : ∀ A B C : Nat, A ≤ B → B ≤ C → A + (B - A) ≤ C ∧ 0 + (B - A) ≤ C := by intro A B C h1 h2; omega
                  show (if _ then 0 else _) + _ ≤ _
                  rw [Nat.sub_mul, hsz]
                  split
                  · exact (key _ _ _ h5 h4).2
                  · exact (key _ _ _ h5 h4).1
                · have hi2 := hi'
                  rw [hlen] at hi2
                  rw [mkSub_sub]
                  show Ty.rd _ _ _ _ _ (fun j => cs[(if (mx.getD (m : Int)).toNat = (lo.getD 0).toNat then 0 else (lo.getD 0).toNat * τ.sz) + i * τ.sz + j]?)
                  rw [if_neg (by omega)]
                  obtain ⟨hlt, e1⟩ := cutL_get (α := τ.den) i hi'
                  rw [e1]
                  refine Ty.rd_congr _ _ _ _ _ (fun j hj => ?_) (Ty.rd_plain _ _ _ _ _ hpl (f5.2 _ hlt))
                  congr 1
                  rw [Nat.add_mul]
              · exact sl_new (u := τ) (xs := cutL (α := τ.den) xs lo hi) (by rw [Eff.app, Eff.app, EffI.app, look_upd, if_pos rfl]) (by rw [setLoc_same]; simp [Sub.addr, hlen])
            · cases h
          · cases h
        · cases h
      · cases h
  · cases h

end Go.Lift
/- Literals of structs, arrays and slices, parts of values, conversions: abstract, and that they tell what the machine does. -/
namespace Go.Lift
open Go

/-! ### parts of values -/
theorem run_part_rd {P : Program} {ok : Nat → Prop} {w : World} {t : TypeId} {u : Ty} {y : u.den} {cs : Array Value} {o : Nat} (hfit : fits P t u = true)
    (hr : u.rd ok w Sub.none y (fun j => cs[o + j]?)) : ∃ V, (part t cs o).run P w = .ok V w ∧ VRel ok w u y V := by
  have hcell := Ty.rd_cell u _ y _ Sub.none_hd hr
  have hagg := fits_agg hfit
  cases hu : u.agg with
  | true =>
    rw [hu] at hagg
    refine ⟨.agg (cs.extract o (o + u.sz)), by simp [part, run_isAgg hagg, run_sizeOf (fits_size hfit)], ?_⟩
    have hsize : u.sz = 0 ∨ o + u.sz ≤ cs.size := by
      rcases Nat.eq_zero_or_pos u.sz with h0 | h0
      · exact .inl h0
      · obtain ⟨v, hv, _⟩ := hcell (u.sz - 1) (by omega)
        have hv' : cs[o + (u.sz - 1)]? = some v := hv
        have := (Array.getElem?_eq_some_iff.1 hv').1
        omega
    have hex : (cs.extract o (o + u.sz)).size = u.sz := by
      rw [Array.size_extract]
      rcases hsize with h0 | h0
      · rw [h0]; omega
      · omega
    refine VRel.of_cells hr hu _ hex (fun j hj => ?_)
    rw [Array.getElem?_extract]
    rw [if_pos (by omega)]
  | false =>
    rw [hu] at hagg
    obtain ⟨v, hv, _⟩ := hcell 0 (by rw [Ty.sz_one hu]; omega)
    have hv' : cs[o]? = some v := by simpa using hv
    exact ⟨v, by simp [part, run_isAgg hagg, hv'], VRel.of_cell hr hu v hv⟩

def fieldV (P : Program) (t : TypeId) (x : SV) (k : Nat) : Option SV :=
  match fieldOf P t k with
  | none => none
  | some (ft, off) => match x with
    | .val t x => match pty t (fpath k) with
      | some u => if fits P ft u = true ∧ poff t (fpath k) = off ∧ t.agg = true then (pget t x (fpath k) u).map (fun y => .val u y) else none
      | none => none
    | _ => none
theorem fieldV_sound {P : Program} {rs : Regs} {φ : Phi} {ok : Nat → Prop} {w : World} {t : TypeId} {k : Nat} {x v : SV} {X : Value}
    (h : fieldV P t x k = some v) (hx : SVRel rs φ ok w x X) : ∃ V, (Instr.field t X k).run P w = .ok V w ∧ SVRel rs φ ok w v V := by
  unfold fieldV at h
  split at h
  · cases h
  · rename_i ft off hfo
    split at h
    · rename_i t' x
      split at h
      · rename_i u hp
        split at h
        · rename_i hc
          obtain ⟨hfit, hoff, hagg⟩ := hc
          rw [Option.map_eq_some_iff] at h
          obtain ⟨y, hy, rfl⟩ := h
          have hV : VRel _ _ _ _ _ := hx
          obtain ⟨cs, hcs⟩ : ∃ cs, X = .agg cs := by
            have := hV.2.2
            rw [hagg] at this
            cases X <;> simp [Value.isAgg] at this
            exact ⟨_, rfl⟩
          subst hcs
          have hr := rd_pget _ _ _ _ _ _ _ hV.1 (pok_fpath k t' u hp) hy
          rw [hoff, Sub.none_at] at hr
          obtain ⟨V, e1, e2⟩ := run_part_rd (P := P) (cs := cs) hfit hr
          refine ⟨V, ?_, e2⟩
          unfold fieldOf at hfo
          split at hfo
          · rename_i fs hu
            rw [Option.map_eq_some_iff] at hfo
            obtain ⟨f, hf, e⟩ := hfo
            cases e
            simp [Instr.field, run_underlying hu, hf, asAgg, e1]
          · cases hfo
        · cases h
      · cases h
    · cases h

/-- A part of a value in which regions lie. -/
def fieldN (P : Program) (rs : Regs) (t : TypeId) (x : SV) (k : Nat) : Option SV :=
  match fieldOf P t k with
  | none => none
  | some (ft, off) => match x with
    | .nst t x H => match pty t (fpath k) with
      | some u => if fits P ft u = true ∧ poff t (fpath k) = off ∧ t.agg = true then
          (if u.plain = true then (pget t x (fpath k) u).map (fun y => .val u y) else match H.find? fun q => decide (q.1 = fpath k) with
          | some (_, m) => match u with
            | .own τ => match look rs m with
              | some (.row τ' _ _) => if τ' = τ then some (.sl m) else none
              | _ => none
            | .ptr τ => match look rs m with
              | some (.box τ' _ _) => if τ' = τ then some (.addr m []) else none
              | some (.obox τ' _ _) => if τ' = τ then some (.addr m []) else none
              | _ => none
            | .map k v => match look rs m with
              | some (.mp k' v' _ _) => if k' = k ∧ v' = v then some (.mp m) else none
              | _ => none
            | _ => none
          | none => none) else none
      | none => none
    | _ => none
theorem run_field {P : Program} {w : World} {t ft : TypeId} {k off : Nat} {cs : Array Value} {V : Value} (hfo : fieldOf P t k = some (ft, off)) (e1 : (part ft cs off).run P w = .ok V w) : (Instr.field t (.agg cs) k).run P w = .ok V w := by
  unfold fieldOf at hfo
  split at hfo
  · rename_i fs hu
    rw [Option.map_eq_some_iff] at hfo
    obtain ⟨f, hf, e⟩ := hfo
    cases e
    simp [Instr.field, run_underlying hu, hf, asAgg, e1]
  · cases hfo
/-- A header that is a part. -/
theorem run_part_one {P : Program} {w : World} {t : TypeId} {u : Ty} {cs : Array Value} {o : Nat} {v : Value} (hfit : fits P t u = true) (hu : u.agg = false) (hc : cs[o]? = some v) : (part t cs o).run P w = .ok v w := by
  have hagg := fits_agg hfit
  rw [hu] at hagg
  simp [part, run_isAgg hagg, hc]
/-- What a region's header reads as. -/
theorem hdr_rel {cx : Cx} {φ : Phi} {rs : Regs} {ok : Nat → Prop} {w : World} (L : Lay cx φ rs w) {m : Nat} {V : Value} (h : ∀ g, look rs m = some g → V = hdr (φ m) g) :
    (SVRel rs φ ok w (.sl m) V) ∧ ((∀ t xs H, look rs m ≠ some (.row t xs H)) → (∀ k v o H, look rs m ≠ some (.mp k v o H)) → SVRel rs φ ok w (.addr m []) V) ∧ SVRel rs φ ok w (.mp m) V := by
  refine ⟨fun t xs H hl => h _ hl, fun h1 h2 g hl => ?_, fun k v o H hl => h _ hl⟩
  have hV := h g hl
  cases g with
  | row t xs H => exact (h1 _ _ _ hl).elim
  | mp k v o H => exact (h2 _ _ _ _ hl).elim
  | box t x H =>
    obtain ⟨_, b, cs, ty, fz, e1, _⟩ := L.rg m _ hl
    exact ⟨b, e1, by simp [pok], by rw [hV]; simp [hdr, Sub.blk, e1, poff]⟩
  | obox t o H =>
    refine .inl ⟨rfl, ?_, hV⟩
    have := L.rg m _ hl
    cases o with
    | none =>
      have h1 : ((φ m) []).blk = none := this
      simp [Sub.blk, h1]
    | some x0 =>
      obtain ⟨_, b2, cs2, ty2, fz2, m1, _⟩ := this
      simp [Sub.blk, m1]
theorem fieldN_sound {cx : Cx} {φ : Phi} {st : St} {a : Act} {w : World} (R : RelF cx φ st a w) {t : TypeId} {k : Nat} {x v : SV} {X : Value}
    (h : fieldN cx.P st.regs t x k = some v) (hx : SVRel st.regs φ (okOf st.regs φ) w x X) : ∃ V, (Instr.field t X k).run cx.P w = .ok V w ∧ SVRel st.regs φ (okOf st.regs φ) w v V := by
  unfold fieldN at h
  split at h
  · cases h
  · rename_i ft off hfo
    split at h
    · rename_i t' x H
      split at h
      · rename_i u hp
        split at h
        · rename_i hc
          obtain ⟨hfit, hoff, hagg⟩ := hc
          obtain ⟨v1, v2, v3, v4, v5⟩ : NRel _ _ _ _ _ _ _ _ := hx
          obtain ⟨cs, hcs⟩ : ∃ cs, X = .agg cs := by
            rw [hagg] at v3
            cases X <;> simp [Value.isAgg] at v3
            exact ⟨_, rfl⟩
          subst hcs
          split at h
          · rename_i hpl
            rw [Option.map_eq_some_iff] at h
            obtain ⟨y, hy, rfl⟩ := h
            have hr := Ty.rd_plain _ _ Sub.none _ _ hpl (rd_pget _ _ _ _ _ _ _ v1 (pok_fpath k t' u hp) hy)
            rw [hoff] at hr
            obtain ⟨V, e1, e2⟩ := run_part_rd (P := cx.P) (cs := cs) hfit hr
            exact ⟨V, run_field hfo e1, e2⟩
          · split at h
            · rename_i q m hfd
              have hqm : (q, m) ∈ H ∧ q = fpath k := ⟨List.mem_of_find?_eq_some hfd, by simpa using List.find?_some hfd⟩
              obtain ⟨hqm, rfl⟩ := hqm
              have h5 := (v5 _ m hqm).2
              rw [hoff] at h5
              have key : u.agg = false → (∃ gm, look st.regs m = some gm) → ∃ V, (Instr.field t (.agg cs) k).run cx.P w = .ok V w ∧ ∀ gm, look st.regs m = some gm → V = hdr (φ m) gm := by
                intro ha ⟨gm, hgm⟩
                refine ⟨hdr (φ m) gm, run_field hfo (run_part_one hfit ha (h5 gm hgm)), fun gm' hgm' => by rw [hgm] at hgm'; cases hgm'; rfl⟩
              split at h
              · split at h
                · rename_i hm
                  split at h
                  · cases h
                    obtain ⟨V, e1, e2⟩ := key rfl ⟨_, hm⟩
                    exact ⟨V, e1, (hdr_rel R.lay e2).1⟩
                  · cases h
                · cases h
              · split at h
                · rename_i hm
                  split at h
                  · cases h
                    obtain ⟨V, e1, e2⟩ := key rfl ⟨_, hm⟩
                    exact ⟨V, e1, (hdr_rel R.lay e2).2.1 (fun _ _ _ e => by rw [hm] at e; cases e) (fun _ _ _ _ e => by rw [hm] at e; cases e)⟩
                  · cases h
                · rename_i hm
                  split at h
                  · cases h
                    obtain ⟨V, e1, e2⟩ := key rfl ⟨_, hm⟩
                    exact ⟨V, e1, (hdr_rel R.lay e2).2.1 (fun _ _ _ e => by rw [hm] at e; cases e) (fun _ _ _ _ e => by rw [hm] at e; cases e)⟩
                  · cases h
                · cases h
              · split at h
                · rename_i hm
                  split at h
                  · cases h
                    obtain ⟨V, e1, e2⟩ := key rfl ⟨_, hm⟩
                    exact ⟨V, e1, (hdr_rel R.lay e2).2.2⟩
                  · cases h
                · cases h
              · cases h
            · cases h
        · cases h
      · cases h
    · cases h

def indexV (P : Program) (t : TypeId) (x i : SV) : Option (List Prop × SV) :=
  match i with
  | .val (.int _) i =>
    match P.underlying t, x with
    | some .string, .val .str s => some ([0 ≤ i, i < (s.size : Int)], vI .u8 ((strBytes s).getD i.toNat 0))
    | some (.array m e), .val (.arr m' τ) xs => if fits P e τ = true ∧ m = m' then some ([0 ≤ i, i < (m : Int)], .val τ (List.getD xs i.toNat τ.dflt)) else none
    | _, _ => none
  | _ => none
theorem indexV_sound {P : Program} {rs : Regs} {φ : Phi} {ok : Nat → Prop} {w : World} {t : TypeId} {x i v : SV} {vc : List Prop} {X I : Value}
    (h : indexV P t x i = some (vc, v)) (hvc : ∀ p ∈ vc, p) (hx : SVRel rs φ ok w x X) (hi : SVRel rs φ ok w i I) : ∃ V, (Instr.index t X I).run P w = .ok V w ∧ SVRel rs φ ok w v V := by
  unfold indexV at h
  split at h
  · rename_i k n
    have eI : I = .int k n := VRel.int_eq hi
    subst eI
    split at h
    · rename_i s hu
      cases h
      have eX : X = .string s := VRel.str_eq hx
      subst eX
      have h0 : @LE.le Int _ 0 n := hvc _ (by simp)
      have h1 : @LT.lt Int _ n (s.size : Int) := hvc _ (by simp)
      have h2 : Int.toNat n < s.size := by omega
      refine ⟨.int .u8 (s[Int.toNat n]).toNat, ?_, ?_⟩
      · simp only [Instr.index, asIntOf, Sem.run_bind, Sem.run_pure, Result.andThen_ok, run_underlying hu]
        rw [if_pos h0, getElem?_pos s _ h2]
        rfl
      · have e : (strBytes s).getD (Int.toNat n) 0 = ((s[Int.toNat n]).toNat : Int) := by
          have h3 : Int.toNat n < s.data.toList.length := by rw [Array.length_toList]; exact h2
          simp only [strBytes, List.getD_eq_getElem?_getD, List.getElem?_map, List.getElem?_eq_getElem h3, Option.map_some, Option.getD_some]
          rfl
        rw [e]
        exact VRel.of_int _ _ _ _
    · rename_i m e m' τ xs hu
      split at h
      · rename_i hc
        obtain ⟨hfit, rfl⟩ := hc
        cases h
        have h0 : @LE.le Int _ 0 n := hvc _ (by simp)
        have h1 : @LT.lt Int _ n (m : Int) := hvc _ (by simp)
        have hV : VRel _ _ _ _ _ := hx
        obtain ⟨cs, hcs⟩ : ∃ cs, X = .agg cs := by
          have := hV.2.2
          cases X <;> simp [Value.isAgg, Ty.agg] at this
          exact ⟨_, rfl⟩
        subst hcs
        have hl := hV.1.1
        have hi' : Int.toNat n < List.length xs := by omega
        have e : List.getD xs (Int.toNat n) τ.dflt = xs[Int.toNat n] := by simp [List.getD, List.getElem?_eq_getElem hi']
        have hr := hV.1.2 (Int.toNat n) hi'
        obtain ⟨V, e1, e2⟩ := run_part_rd (P := P) (cs := cs) (o := Int.toNat n * τ.sz) hfit hr
        refine ⟨V, ?_, by rw [e]; exact e2⟩
        simp [Instr.index, asIntOf, run_underlying hu, h0, h1, run_sizeOf (fits_size hfit), e1]
      · cases h
    · cases h
  · cases h

/-! ### conversions -/
def convV (P : Program) (src dst : TypeId) (x : SV) : Option SV :=
  match P.underlying dst, x with
  | some (.int k), .val (.int _) n => if (P.underlying src).isSome = true then some (vI k (k.wrap n)) else none
  | some .string, .val .str s => if P.underlying src matches some .string then some (.val .str s) else none
  | _, _ => none
theorem convV_sound {P : Program} {rs : Regs} {φ : Phi} {ok : Nat → Prop} {w : World} {src dst : TypeId} {x v : SV} {X : Value}
    (h : convV P src dst x = some v) (hx : SVRel rs φ ok w x X) : ∃ V, (convert src dst X).run P w = .ok V w ∧ SVRel rs φ ok w v V := by
  unfold convV at h
  split at h
  · rename_i k k' n hd
    split at h
    · rename_i hs
      cases h
      have eX : X = .int k' n := VRel.int_eq hx
      subst eX
      obtain ⟨d, hs⟩ := Option.isSome_iff_exists.1 hs
      exact ⟨_, by simp [convert, run_underlying hd, run_underlying hs, Conv.intToInt], VRel.of_int _ _ _ _⟩
    · cases h
  · rename_i s hd
    split at h
    · rename_i hm
      cases h
      have eX : X = .string s := VRel.str_eq hx
      subst eX
      have hs : P.underlying src = some .string := by
        revert hm
        cases P.underlying src with
        | none => simp
        | some d => cases d <;> simp
      exact ⟨_, by simp [convert, run_underlying hd, run_underlying hs], VRel.of_str _ _ _⟩
    · cases h
  · cases h

/-- string(b) and []byte(s). -/
def strOfV (P : Program) (rs : Regs) (src dst : TypeId) (x : SV) : Option SV :=
  match P.underlying dst, P.underlying src with
  | some .string, some (.slice e) => match P.underlying e with
    | some (.int .u8) => match x with
      | .nilsl => some (vS ByteArray.empty)
      | x => match rowOf rs x with
        | some ⟨.int .u8, xs⟩ => some (vS (strOfNums xs))
        | _ => none
    | _ => none
  | _, _ => none
theorem strOfV_sound {cx : Cx} {φ : Phi} {st : St} {a : Act} {w : World} (R : RelF cx φ st a w) {src dst : TypeId} {x v : SV} {X : Value}
    (h : strOfV cx.P st.regs src dst x = some v) (hx : SVRel st.regs φ (okOf st.regs φ) w x X) : ∃ V, (convert src dst X).run cx.P w = .ok V w ∧ SVRel st.regs φ (okOf st.regs φ) w v V := by
  unfold strOfV at h
  split at h
  · rename_i e hd hs
    split at h
    · rename_i he
      split at h
      · cases h
        have hX : X = .slice none 0 0 := hx
        subst hX
        exact ⟨_, run_convert_bytes_nil w src e hs he 0 0 dst hd, VRel.of_str _ _ _⟩
      · split at h
        · rename_i xs hr
          cases h
          obtain ⟨ad, cap, rfl, _, h2⟩ := rowOf_sound R hr hx
          rcases h2 with h2 | ⟨b, off, cs, ty, fz, e1, e2, e3⟩
          · have hl : List.length xs = 0 := by rw [h2]; rfl
            have hx0 : strOfNums xs = ByteArray.empty := by
              have : xs = [] := h2
              rw [this]; rfl
            refine ⟨.string ByteArray.empty, ?_, by rw [hx0]; exact VRel.of_str _ _ _⟩
            cases ad with
            | none => exact run_convert_bytes_nil w src e hs he _ cap dst hd
            | some ad =>
              rw [run_convert_bytes_string w src dst e _ _ cap hs he hd, run_bytesToString w _ _ cap [] (by rw [hl]; simp [loadCells, loadCellsFrom])]
              simp
          · subst e1
            refine ⟨_, run_convert_bytes_arg w src e hs he b off _ cap xs rfl (fun i hi => ?_) dst hd, VRel.of_str _ _ _⟩
            have := e3 i hi
            have h3 : cs[off + i * 1 + 0]? = some (.int .u8 xs[i]) := this
            have h4 : List.getD xs i (0 : Int) = xs[i] := by simp [List.getD, List.getElem?_eq_getElem hi]
            rw [h4]
            simp only [Nat.mul_one, Nat.add_zero] at h3
            simp [World.cell?, e2, h3]
        · cases h
    · cases h
  · cases h

def bytesV (P : Program) (src dst : TypeId) (x : SV) (n : Nat) : Option (SV × Eff) :=
  match P.underlying src, P.underlying dst with
  | some .string, some (.slice e) => match P.underlying e, x with
    | some (.int .u8), .val .str s => some (.sl n, [.set none n (.row (.int .u8) (strBytes s) [])])
    | _, _ => none
  | _, _ => none
theorem bytesV_sound {cx : Cx} {φ : Phi} {st : St} {a : Act} {w : World} (R : RelF cx φ st a w) {n : Nat} (hf : FreshN cx st n) {src dst : TypeId} {x v : SV} {e : Eff} {X : Value}
    (h : bytesV cx.P src dst x n = some (v, e)) (hx : SVRel st.regs φ (okOf st.regs φ) w x X) :
    ∃ V w' φ', (convert src dst X).run cx.P w = .ok V w' ∧ RelF cx φ' { st with regs := e.app st.regs } a w' ∧ SVRel (e.app st.regs) φ' (okOf (e.app st.regs) φ') w' v V := by
  unfold bytesV at h
  split at h
  · rename_i e0 hs hd
    split at h
    · rename_i s he
      cases h
      have eX : X = .string s := VRel.str_eq hx
      subst eX
      have hrun := run_bytes_of_string (P := cx.P) w src dst e0 s hs hd he
      have R1 := R.heap (w' := w.drew) rfl rfl rfl rfl
      have hcap : s.size ≤ grownCap w s.size 0 e0 := by
        show s.size ≤ s.size + _
        omega
      have R2 := R1.new hf (.row (.int .u8) (strBytes s) []) rfl (bytesRow s (grownCap w s.size 0 e0)) e0 ((bytesRow s (grownCap w s.size 0 e0)).size, (bytesRow s (grownCap w s.size 0 e0)).size + 1) 0 (grownCap w s.size 0 e0)
        (fun w' hw' => by
          have hsize : (bytesRow s (grownCap w s.size 0 e0)).size = grownCap w s.size 0 e0 := by
            have : s.data.size = s.size := rfl
            simp [bytesRow, this]; omega
          refine ⟨by rw [mkSub_root]; simpa [strBytes] using hcap, ?_⟩
          rw [mkSub_root]
          refine ⟨_, e0, _, hw', ?_, ?_, fun i hi => ?_⟩
          · intro i hi
            have : ¬ (bytesRow s (grownCap w s.size 0 e0)).size ≤ i := by omega
            simp [this]
          · rw [hsize]; simp [Ty.sz]
          · have hi' : i < s.data.size := by simpa [strBytes] using hi
            show (bytesRow s _)[0 + i * 1 + 0]? = _
            simp only [Nat.mul_one, Nat.add_zero, Nat.zero_add, bytesRow, strBytes]
            rw [Array.getElem?_append_left (by simpa using hi'), Array.getElem?_map, Array.getElem?_eq_getElem hi', Option.map_some]
            simp)
      exact ⟨_, _, _, hrun, R2, sl_new (u := .int .u8) (xs := strBytes s) (by rw [Eff.app, Eff.app, EffI.app, look_upd, if_pos rfl]) (by rw [setLoc_same]; simp [Sub.addr, strBytes])⟩
    · cases h
  · cases h

/-! ### the lesser, the greater -/
def minV (greater : Bool) : List SV → Option SV
  | [] => none
  | x :: xs => xs.foldl (fun (m : Option SV) y => match m, y with
      | some (.val (.int k) a), .val (.int k') b => if k = k' then some (vI k (if greater then (if b > a then b else a) else (if b < a then b else a))) else none
      | _, _ => none) (match x with | .val (.int k) a => some (vI k a) | _ => none)

end Go.Lift
/- Literals, the lesser and the greater, equality: abstract, and that they tell what the machine does. -/
namespace Go.Lift
open Go

theorem zipIdx_write : ∀ (l : List Value) (k off : Nat) (cs : Array Value), (l.zipIdx k).foldl (fun cs (x : Value × Nat) => cs.setIfInBounds (off + x.2) x.1) cs = writeAt cs (off + k) l
  | [], _, _, _ => rfl
  | v :: r, k, off, cs => by
    simp only [List.zipIdx_cons, List.foldl_cons, writeAt]
    rw [zipIdx_write r (k + 1) off]
    rw [Nat.add_assoc]
theorem fill_step {place : Nat → Option (Nat × Nat)} {cells : Array Value} {i : Nat} {v : Value} {rest : List (Nat × Value)} {off size : Nat} (hp : place i = some (off, size)) (hs : v.cells.size = size) (hl : off + size ≤ cells.size) :
    Instr.fill place cells ((i, v) :: rest) = Instr.fill place (writeAt cells off v.cells.toList) rest := by
  have h1 : ¬ (v.cells.size ≠ size ∨ off + v.cells.size > cells.size) := by omega
  simp only [Instr.fill, hp]
  rw [if_neg (by simpa using h1)]
  congr 1
  rw [← Array.foldl_toList, Array.toList_zipIdx]
  exact zipIdx_write v.cells.toList 0 off cells

def inArr : Ty → Nat → Bool
  | .arr n _, i => decide (i < n)
  | _, _ => false
def ppath (arr : Bool) (i : Nat) : List Step := if arr then [.idx i] else fpath i

/-- The parts of a literal set, one by one. -/
def setParts (rs : Regs) (τ : Ty) (arr : Bool) (place : Nat → Option (Nat × Nat)) (x : τ.den) : List (Nat × SV) → Option (τ.den × List Nat × Holes)
  | [] => some (x, [], [])
  | (i, v) :: rest => match pty τ (ppath arr i) with
    | some u => match toVal rs v u with
      | some (y, l, H) => if place i = some (poff τ (ppath arr i), u.sz) ∧ (!arr || inArr τ i) = true ∧ linkHs u H = true ∧ (rest.all fun q => !(Nat.beq q.1 i)) = true then
          match pset τ x (ppath arr i) u y with
          | some x' => (setParts rs τ arr place x' rest).map fun r => (r.1, l ++ r.2.1, H.map (fun q => (ppath arr i ++ q.1, q.2)) ++ r.2.2)
          | none => none
        else none
      | none => none
    | none => none

inductive Parts2 (R : SV → Value → Prop) : List (Nat × SV) → List (Nat × Value) → Prop where
  | nil : Parts2 R [] []
  | cons {i : Nat} {v : SV} {V : Value} {vs : List (Nat × SV)} {Vs : List (Nat × Value)} (h : R v V) (t : Parts2 R vs Vs) : Parts2 R ((i, v) :: vs) ((i, V) :: Vs)

theorem rd_weak {ok : Nat → Prop} {w : World} : ∀ (t : Ty) (s s' : Sub) (x : t.den) (c : Nat → Option Value), (∀ q, s' q = s q ∨ (s' q).hd = false) → (∀ q b, (s q).blk = some b → s' q = s q) → t.rd ok w s x c → t.rd ok w s' x c := by
  intro t
  induction t with
  | int k => intro s s' x c _ _ hr; exact hr
  | bool => intro s s' x c _ _ hr; exact hr
  | str => intro s s' x c _ _ hr; exact hr
  | unit => intro s s' x c _ _ hr; exact hr
  | ro t ih => intro s s' x c _ _ hr; exact hr
  | own t ih =>
    intro s s' x c h hb hr
    rcases h [] with h0 | h0
    · intro hd
      rw [h0] at hd ⊢
      obtain ⟨h1, h2, h3⟩ := hr hd
      refine ⟨h1, h2, ?_⟩
      cases hbl : (s []).blk with
      | none => simp only [hbl] at h3 ⊢; exact h3
      | some b =>
        simp only [hbl] at h3 ⊢
        obtain ⟨cs, ty, fz, e1, e2, e3, e4⟩ := h3
        exact ⟨cs, ty, fz, e1, e2, e3, fun i hi => ih _ _ _ _ (fun q => h _) (fun q b hq => hb _ b hq) (e4 i hi)⟩
    · exact rd_open rfl h0
  | ptr t ih =>
    intro s s' o c h hb hr
    rcases h [] with h0 | h0
    · intro hd
      rw [h0] at hd ⊢
      obtain ⟨h1, h2⟩ := hr hd
      refine ⟨h1, ?_⟩
      cases o with
      | none => exact h2
      | some x =>
        obtain ⟨k0, b, cs, ty, fz, e1, e2, e3, e4, e5⟩ := h2
        exact ⟨k0, b, cs, ty, fz, e1, e2, e3, e4, ih _ _ _ _ (fun q => h _) (fun q b hq => hb _ b hq) e5⟩
    · exact rd_open rfl h0
  | map k v ihk ihv =>
    intro s s' o c h hb hr
    rcases h [] with h0 | h0
    · intro hd
      rw [h0] at hd ⊢
      obtain ⟨h1, h2⟩ := hr hd
      refine ⟨h1, ?_⟩
      cases o with
      | none => exact h2
      | some es =>
        obtain ⟨k0, b, ms, clock, e1, e2, e3, d1, d2, e4⟩ := h2
        refine ⟨k0, b, ms, clock, e1, e2, e3, d1, d2, fun i hi hi' => ?_⟩
        obtain ⟨f1, f2, f3, f4, f5, f6⟩ := e4 i hi hi'
        refine ⟨f1, f2, f3, ihv _ _ _ _ (fun q => ?_) (fun q b hq => ?_) f4, f5, f6⟩
        · cases k <;> first | exact h _ | exact .inl rfl
        · cases k <;> first | exact hb _ b hq | cases hq
    · exact rd_open rfl h0
  | pair a b iha ihb =>
    intro s s' x c h hb hr
    exact ⟨iha _ _ _ _ (fun q => h _) (fun q b hq => hb _ b hq) hr.1, ihb _ _ _ _ (fun q => h _) (fun q b hq => hb _ b hq) hr.2⟩
  | arr n t ih =>
    intro s s' x c h hb hr
    exact ⟨hr.1, fun i hi => ih _ _ _ _ (fun q => h _) (fun q b hq => hb _ b hq) (hr.2 i hi)⟩

theorem fpath_ne : ∀ (i j : Nat) (q r : List Step), i ≠ j → fpath i ++ q ≠ fpath j ++ r
  | 0, 0, _, _, h => (h rfl).elim
  | 0, j + 1, q, r, _ => by simp [fpath]
  | i + 1, 0, q, r, _ => by simp [fpath]
  | i + 1, j + 1, q, r, h => by
    simp only [fpath, List.cons_append, ne_eq, List.cons.injEq, true_and]
    exact fpath_ne i j q r (by omega)
theorem ppath_ne {arr : Bool} {i j : Nat} {q r : List Step} (h : i ≠ j) : ppath arr i ++ q ≠ ppath arr j ++ r := by
  cases arr with
  | false => exact fpath_ne i j q r h
  | true => simp [ppath]; omega
theorem ppath_pok {arr : Bool} {τ u : Ty} {i : Nat} (hp : pty τ (ppath arr i) = some u) (hb : (!arr || inArr τ i) = true) : pok τ (ppath arr i) := by
  cases arr with
  | false => exact pok_fpath i τ u hp
  | true =>
    cases τ <;> simp [inArr] at hb
    simp only [ppath, if_true, pok]
    exact ⟨by omega, by omega, by simp [pok]⟩

/-- Nothing of its own, some places open. -/
def Bare (s : Sub) : Prop := ∀ q, s q = ⟨none, 0, 0, (s q).hd⟩
theorem Bare.put {s : Sub} (h : Bare s) (P : List Step) (H : Holes) : Bare (s.put P (hsub H)) := by
  intro q
  rcases put_cases s (hsub H) P q with ⟨r, _, e⟩ | ⟨_, e⟩ <;> rw [e]
  · rfl
  · exact h q

theorem NRel.fewer {rs rs' : Regs} {φ : Phi} {ok ok' : Nat → Prop} {w : World} {t : Ty} {x : t.den} {H : Holes} {v : Value} (h : NRel rs φ ok w t x H v) (hl : ∀ s g, look rs' s = some g → look rs s = some g)
    (hok : ∀ b, ok b → ok' b) : NRel rs' φ ok' w t x H v :=
  ⟨Ty.rd_mono' (fun b o h1 h2 => ⟨hok b h1, h2⟩) _ _ _ _ (fun _ _ _ => rfl) h.1, h.2.1, h.2.2.1, h.2.2.2.1, fun p m hm => ⟨(h.2.2.2.2 p m hm).1, fun g hg => (h.2.2.2.2 p m hm).2 g (hl m g hg)⟩⟩

theorem setParts_sound {cx : Cx} {φ : Phi} {st : St} {a : Act} {w : World} (R : RelF cx φ st a w) {τ : Ty} {arr : Bool} {place : Nat → Option (Nat × Nat)} (L : List Nat) :
    ∀ (vs : List (Nat × SV)) (Vs : List (Nat × Value)) (x z : τ.den) (l : List Nat) (H : Holes) (cells : Array Value) (s : Sub), setParts st.regs τ arr place x vs = some (z, l, H) → (∀ r ∈ l, r ∈ L) →
      Parts2 (SVRel st.regs φ (okOf st.regs φ) w) vs Vs → cells.size = τ.sz → Bare s → τ.rd (okOf (dels st.regs L) φ) w s x (fun j => cells[j]?) → (∀ c ∈ cells.toList, c.oneCell' = true) →
      ∃ cells' s', Instr.fill place cells Vs = some cells' ∧ cells'.size = τ.sz ∧ Bare s' ∧ τ.rd (okOf (dels st.regs L) φ) w s' z (fun j => cells'[j]?) ∧ (∀ c ∈ cells'.toList, c.oneCell' = true) ∧
        (∀ q, (s' q).hd = false → (s q).hd = false ∨ ∃ m, (q, m) ∈ H) ∧
        (∀ q m, (q, m) ∈ H → pok τ q ∧ (∃ u, pty τ q = some u ∧ u.link = true) ∧ (∃ i v r, (i, v) ∈ vs ∧ q = ppath arr i ++ r) ∧ ∀ g, look (dels st.regs L) m = some g → cells'[poff τ q]? = some (hdr (φ m) g)) ∧
        (∀ q u, pok τ q → pty τ q = some u → u.link = true → (∀ i v r, (i, v) ∈ vs → q ≠ ppath arr i ++ r) → cells'[poff τ q]? = cells[poff τ q]?) := by
  intro vs
  induction vs with
  | nil =>
    intro Vs x z l H cells s h hL hV hs hb hr h1
    cases hV
    simp only [setParts, Option.some.injEq, Prod.mk.injEq] at h
    obtain ⟨rfl, rfl, rfl⟩ := h
    exact ⟨cells, s, rfl, hs, hb, hr, h1, fun q hq => .inl hq, fun q m hm => (by cases hm), fun q u _ _ _ _ => rfl⟩
  | cons iv vs ih =>
    intro Vs x z l H cells s h hL hV hs hbare hr h1c
    cases hV with
    | cons hv ht =>
      rename_i i v V Vs
      simp only [setParts] at h
      split at h
      · rename_i u hp
        split at h
        · rename_i y l0 H0 htv
          split at h
          · rename_i hc
            obtain ⟨hpl, hb, hlk, hdist⟩ := hc
            split at h
            · rename_i x' hx'
              rw [Option.map_eq_some_iff] at h
              obtain ⟨⟨z', l', H'⟩, hz, e⟩ := h
              simp only [Prod.mk.injEq] at e
              obtain ⟨rfl, rfl, rfl⟩ := e
              have hok := ppath_pok hp hb
              have hbd := poff_le (ppath arr i) τ u hok hp
              have hVal := (toVal_sound R htv hv).1
              have hVal' : NRel (dels st.regs L) φ (okOf (dels st.regs L) φ) w u y H0 V := by
                have hfew : ∀ s g, look (dels st.regs L) s = some g → look (dels st.regs l0) s = some g := fun s g hsg => by
                  obtain ⟨k1, k2⟩ := look_dels_some hsg
                  rw [look_dels, if_neg (fun hm => k1 (hL s (List.mem_append_left _ hm)))]
                  exact k2
                exact hVal.fewer hfew fun b hok => ⟨fun s g hsg => hok.1 s g (hfew s g hsg), hok.2⟩
              obtain ⟨v1, v2, v3, v4, v5⟩ := hVal'
              have hVl : V.cells.toList.length = u.sz := by simpa using v2
              rw [fill_step hpl v2 (by omega)]
              have hne : ∀ j v', (j, v') ∈ vs → j ≠ i := fun j v' hj e => by
                have := List.all_eq_true.1 hdist _ hj
                subst e; simp at this
              have hsz2 : (writeAt cells (poff τ (ppath arr i)) V.cells.toList).size = τ.sz := by rw [size_writeAt]; exact hs
              have hfit : poff τ (ppath arr i) + V.cells.toList.length ≤ cells.size := by omega
              have hr2 : τ.rd (okOf (dels st.regs L) φ) w (s.put (ppath arr i) (hsub H0)) x' (fun j => (writeAt cells (poff τ (ppath arr i)) V.cells.toList)[j]?) := by
                refine rd_pset' (ppath arr i) τ s (hsub H0) x (fun j => cells[j]?) (fun j => (writeAt cells (poff τ (ppath arr i)) V.cells.toList)[j]?) u y x' (fun j => V.cells[j]?) hr hok hx' v1 (fun j hj => ?_) (fun j hj => ?_)
                · show (writeAt cells (poff τ (ppath arr i)) V.cells.toList)[j]? = cells[j]?
                  rw [get_writeAt _ _ _ _ hfit, if_neg (by omega)]
                · show (writeAt cells (poff τ (ppath arr i)) V.cells.toList)[poff τ (ppath arr i) + j]? = V.cells[j]?
                  rw [get_writeAt _ _ _ _ hfit, if_pos (by omega)]
                  simp
              have h12 : ∀ c ∈ (writeAt cells (poff τ (ppath arr i)) V.cells.toList).toList, c.oneCell' = true := by
                intro c hc
                obtain ⟨j, hj, e⟩ := List.getElem_of_mem hc
                have e2 : (writeAt cells (poff τ (ppath arr i)) V.cells.toList)[j]? = some c := by rw [← Array.getElem?_toList, List.getElem?_eq_getElem hj, e]
                rw [get_writeAt _ _ _ _ hfit] at e2
                split at e2
                · exact v4 c (List.mem_of_getElem? e2)
                · exact h1c c (by rw [← Array.getElem?_toList] at e2; exact List.mem_of_getElem? e2)
              obtain ⟨cells', s', k1, k2, k3, k4, k5, k6, k7, k8⟩ := ih Vs x' z' l' H' (writeAt cells (poff τ (ppath arr i)) V.cells.toList) (s.put (ppath arr i) (hsub H0)) hz (fun r hr => hL r (List.mem_append_right _ hr)) ht hsz2 (hbare.put _ _) hr2 h12
              refine ⟨cells', s', k1, k2, k3, k4, k5, fun q hq => ?_, fun q m hqm => ?_, fun q u' hq hqt hqk hqv => ?_⟩
              · rcases k6 q hq with h | ⟨m, h⟩
                · rcases put_cases s (hsub H0) (ppath arr i) q with ⟨r, e1, e2⟩ | ⟨_, e2⟩ <;> rw [e2] at h
                  · obtain ⟨m, hm⟩ := hsub_hd h
                    exact .inr ⟨m, List.mem_append_left _ (List.mem_map.2 ⟨_, hm, by rw [e1]⟩)⟩
                  · exact .inl h
                · exact .inr ⟨m, List.mem_append_right _ h⟩
              · rcases List.mem_append.1 hqm with hqm | hqm
                · obtain ⟨⟨q0, m0⟩, h1, h2⟩ := List.mem_map.1 hqm
                  simp only [Prod.mk.injEq] at h2
                  obtain ⟨rfl, rfl⟩ := h2
                  obtain ⟨w1, w2⟩ := v5 q0 m0 h1
                  have hlq := List.all_eq_true.1 hlk _ h1
                  cases hpq : pty u q0 with
                  | none => simp [hpq] at hlq
                  | some v0 =>
                    simp only [hpq] at hlq
                    have hpok' : pok τ (ppath arr i ++ q0) := (pok_app _ _ _ _ hp).2 ⟨hok, w1⟩
                    have hpty' : pty τ (ppath arr i ++ q0) = some v0 := (pty_app _ _ _ _ hp).trans hpq
                    refine ⟨hpok', ⟨v0, hpty', hlq⟩, ⟨i, v, q0, List.mem_cons_self .., rfl⟩, fun g hg => ?_⟩
                    rw [k8 _ v0 hpok' hpty' hlq (fun j v' r hj => ppath_ne (hne j v' hj).symm), poff_app _ _ _ _ hp]
                    have h5 := poff_le q0 u v0 w1 hpq
                    have h6 := (link_sz hlq).1
                    rw [get_writeAt _ _ _ _ (by omega), if_pos (by omega)]
                    have := w2 g hg
                    rw [show poff τ (ppath arr i) + poff u q0 - poff τ (ppath arr i) = poff u q0 by omega]
                    simpa using this
                · obtain ⟨h1, h2, ⟨j, v', r, h3, h4⟩, h5⟩ := k7 q m hqm
                  exact ⟨h1, h2, ⟨j, v', r, List.mem_cons_of_mem _ h3, h4⟩, h5⟩
              · rw [k8 q u' hq hqt hqk (fun j v' r hj => hqv j v' r (List.mem_cons_of_mem _ hj))]
                have := beside (ppath arr i) q τ u u' hok hq hp hqt hqk (fun r => hqv i v r (List.mem_cons_self ..))
                have h6 := (link_sz hqk).1
                rw [get_writeAt _ _ _ _ (by omega), if_neg (by omega)]
            · cases h
          · cases h
        · cases h
      · cases h

theorem Bare.none : Bare Sub.none := fun _ => rfl
theorem bare_hsub {ok : Nat → Prop} {w : World} {t : Ty} {x : t.den} {s : Sub} {H : Holes} {c : Nat → Option Value} (hb : Bare s) (hH : ∀ q, (s q).hd = false → ∃ m, (q, m) ∈ H) (h : t.rd ok w s x c) : t.rd ok w (hsub H) x c := by
  refine rd_weak t s (hsub H) x c (fun q => ?_) (fun q b hq => by rw [hb q] at hq; cases hq) h
  cases hq : (hsub H q).hd with
  | false => exact .inr rfl
  | true =>
    left
    rw [hb q]
    cases hs : (s q).hd with
    | true => show hsub H q = _; simp only [hsub] at hq ⊢; rw [hq]
    | false =>
      obtain ⟨m, hm⟩ := hH q hs
      exfalso
      simp only [hsub, Bool.not_eq_true', List.any_eq_false, decide_eq_true_eq] at hq
      exact hq _ hm rfl

def placeOf (P : Program) (t : TypeId) : Option (Bool × (Nat → Option (Nat × Nat))) :=
  match P.underlying t with
  | some (.array _ e) => (sizeT P e).map fun s => (true, fun i => some (i * s, s))
  | some (.struct fs) => (fs.toList.mapM fun f => (P.info? f.type).map fun i => (f.offset, i.size)).map fun pl => (false, fun i => pl[i]?)
  | _ => none
theorem placeOf_built {P : Program} {t : TypeId} {arr : Bool} {place : Nat → Option (Nat × Nat)} {i : TypeInfo} {z : Value} (h : placeOf P t = some (arr, place)) (hi : P.info? t = some i) (hz : i.zero = some z) (parts : List (Nat × Value)) :
    P.built t parts = Instr.fill place z.cells parts := by
  unfold placeOf at h
  split at h
  · rename_i m e hu
    rw [Option.map_eq_some_iff] at h
    obtain ⟨s, hs, e1⟩ := h
    simp only [Prod.mk.injEq] at e1
    obtain ⟨rfl, rfl⟩ := e1
    unfold sizeT at hs
    rw [Option.map_eq_some_iff] at hs
    obtain ⟨ie, hie, rfl⟩ := hs
    simp only [Program.built, hi, hu, hz, hie]
  · rename_i fs hu
    rw [Option.map_eq_some_iff] at h
    obtain ⟨pl, hpl, e1⟩ := h
    simp only [Prod.mk.injEq] at e1
    obtain ⟨rfl, rfl⟩ := e1
    simp only [Program.built, hi, hu, hz, hpl]
    congr 1
    funext x
    simp
  · cases h

def mkNst (τ : Ty) (x : τ.den) (H : Holes) : SV :=
  match H with
  | [] => .val τ x
  | H => .nst τ x H
theorem mkNst_rel {rs : Regs} {φ : Phi} {ok : Nat → Prop} {w : World} {τ : Ty} {x : τ.den} {H : Holes} {v : Value} (h : NRel rs φ ok w τ x H v) : SVRel rs φ ok w (mkNst τ x H) v := by
  cases H with
  | nil => exact h.val
  | cons q H => exact h
def buildV (P : Program) (rs : Regs) (t : TypeId) (parts : List (Nat × SV)) : Option (SV × Eff) :=
  match zty P t with
  | some τ => match placeOf P t with
    | some (arr, place) => if τ.agg = true then (setParts rs τ arr place τ.dflt parts).map fun r => (mkNst τ r.1 r.2.2, r.2.1.map EffI.del) else none
    | none => none
  | none => none
theorem app_dels' (rs : Regs) (l : List Nat) : Eff.app rs (l.map EffI.del) = dels rs l := by
  have := app_dels rs [] l
  simpa [Eff.app] using this
theorem zero_one (t : Ty) : ∀ c ∈ t.zero, c.oneCell' = true := by
  intro c hc
  obtain ⟨j, hj, e⟩ := List.getElem_of_mem hc
  obtain ⟨v, hv, h1⟩ := Ty.rd_cell t _ _ _ Sub.none_hd (Ty.rd_zero (fun _ => True) default t) j (by rw [← t.zero_length]; exact hj)
  have hv' : t.zero[j]? = some v := hv
  rw [List.getElem?_eq_getElem hj, e] at hv'
  cases hv'
  exact h1
theorem buildV_sound {cx : Cx} {φ : Phi} {st : St} {a : Act} {w : World} (R : RelF cx φ st a w) {t : TypeId} {parts : List (Nat × SV)} {Parts : Array (Nat × Value)} {v : SV} {e : Eff}
    (h : buildV cx.P st.regs t parts = some (v, e)) (hp : Parts2 (SVRel st.regs φ (okOf st.regs φ) w) parts Parts.toList) :
    ∃ V, (Instr.build t Parts).run cx.P w = .ok V w ∧ RelF cx φ { st with regs := e.app st.regs } a w ∧ SVRel (e.app st.regs) φ (okOf (e.app st.regs) φ) w v V := by
  unfold buildV at h
  split at h
  · rename_i τ hzt
    split at h
    · rename_i arr place hpl
      split at h
      · rename_i hagg
        rw [Option.map_eq_some_iff] at h
        obtain ⟨⟨z', l, H⟩, hs, e1⟩ := h
        simp only [Prod.mk.injEq] at e1
        obtain ⟨rfl, rfl⟩ := e1
        obtain ⟨i, z, hi, hz, hsz, hzc, ha⟩ := (zty_spec hzt).ex
        have hr0 := Ty.rd_zero (okOf (dels st.regs l) φ) w τ
        rw [← hzc] at hr0
        have hr1 : τ.rd (okOf (dels st.regs l) φ) w Sub.none τ.dflt (fun j => z.cells[j]?) := by simpa using hr0
        have hsz0 : z.cells.size = τ.sz := by rw [← Array.length_toList, hzc, τ.zero_length]
        have h10 : ∀ c ∈ z.cells.toList, c.oneCell' = true := by rw [hzc]; exact zero_one τ
        obtain ⟨cells', s', f1, f2, f3, f4, f5, f6, f7, _⟩ := setParts_sound R l parts Parts.toList τ.dflt z' l H z.cells Sub.none hs (fun r hr => hr) hp hsz0 Bare.none hr1 h10
        have hb : cx.P.built t Parts.toList = some cells' := by rw [placeOf_built hpl hi hz]; exact f1
        refine ⟨.agg cells', run_build w t Parts cells' hb, ?_, ?_⟩
        · rw [app_dels']; exact R.dels l
        · rw [app_dels']
          refine mkNst_rel ⟨bare_hsub f3 (fun q hq => (f6 q hq).resolve_left fun e => by cases e) f4, f2, by rw [hagg]; rfl, f5, fun q m hqm => ?_⟩
          obtain ⟨k1, _, _, k4⟩ := f7 q m hqm
          exact ⟨k1, k4⟩
      · cases h
    · cases h
  · cases h

/-- A slice literal: an array's, in a block of its own. -/
def buildSliceV (P : Program) (rs : Regs) (t : TypeId) (len : Nat) (parts : List (Nat × SV)) (n : Nat) : Option (SV × Eff) :=
  match P.underlying t with
  | some (.slice e) => match zel P e with
    | some τ => if len * τ.sz ≤ 16777216 ∧ 1 ≤ τ.sz then
        (match setParts rs (.arr len τ) true (fun i => some (i * τ.sz, τ.sz)) (Ty.arr len τ).dflt parts with
        | some r => if (r.2.2.all fun q => !(Nat.beq q.2 n)) = true then some (.sl n, r.2.1.map EffI.del ++ [.set none n (.row τ (r.1 : List τ.den) r.2.2)]) else none
        | none => none)
      else none
    | none => none
  | _ => none
theorem buildSliceV_sound {cx : Cx} {φ : Phi} {st : St} {a : Act} {w : World} (R : RelF cx φ st a w) {n : Nat} (hf : FreshN cx st n) {t : TypeId} {len : Nat} {parts : List (Nat × SV)} {Parts : Array (Nat × Value)} {v : SV} {e : Eff}
    (h : buildSliceV cx.P st.regs t len parts n = some (v, e)) (hp : Parts2 (SVRel st.regs φ (okOf st.regs φ) w) parts Parts.toList) :
    ∃ V w' φ', (Instr.buildSlice t len Parts).run cx.P w = .ok V w' ∧ RelF cx φ' { st with regs := e.app st.regs } a w' ∧ SVRel (e.app st.regs) φ' (okOf (e.app st.regs) φ') w' v V := by
  unfold buildSliceV at h
  split at h
  · rename_i e0 hu
    split at h
    · rename_i τ hzt
      split at h
      · rename_i hc
        obtain ⟨hlim, hsz1⟩ := hc
        split at h
        · rename_i r hs
          obtain ⟨xs, l, H⟩ := r
          split at h
          · rename_i hHn
            cases h
            obtain ⟨i, z, hi, hz, hsz, hzc, ha⟩ := (zel_spec hzt).ex
            have hzl : z.cells.size = τ.sz := by rw [← Array.length_toList, hzc, τ.zero_length]
            have hzc' : z.cells = τ.zero.toArray := by rw [← hzc]
            have hget : ∀ k j, k < len → j < τ.sz → (madeCells z.cells (len * τ.sz))[k * τ.sz + j]? = τ.zero[j]? := fun k j hk hj => by
              rw [hzc', made_get _ _ _ (by rw [τ.zero_length]; omega) (mul_lt_of hk hj), τ.zero_length, Nat.mul_comm k τ.sz, Nat.mul_add_mod, Nat.mod_eq_of_lt hj]
            have hr0 : (Ty.arr len τ).rd (okOf (dels st.regs l) φ) w Sub.none (Ty.arr len τ).dflt (fun j => (madeCells z.cells (len * τ.sz))[j]?) := by
              refine ⟨by simp [Ty.dflt], fun k hk => ?_⟩
              have hk' : k < len := by simpa [Ty.dflt] using hk
              have e1 : (Ty.arr len τ).dflt[k]'hk = τ.dflt := by simp [Ty.dflt]
              rw [e1]
              refine Ty.rd_congr _ _ _ _ _ (fun j hj => ?_) (Ty.rd_zero _ _ τ)
              exact (hget k j hk' hj).symm
            have hsz0 : (madeCells z.cells (len * τ.sz)).size = (Ty.arr len τ).sz := by rw [size_madeCells]; rfl
            have h10 : ∀ c ∈ (madeCells z.cells (len * τ.sz)).toList, c.oneCell' = true := by
              intro c hc
              obtain ⟨j, hj, e⟩ := List.getElem_of_mem hc
              have hj' : j < len * τ.sz := by simpa [size_madeCells] using hj
              have e2 : (madeCells z.cells (len * τ.sz))[j]? = some c := by rw [← Array.getElem?_toList, List.getElem?_eq_getElem hj, e]
              rw [hzc', made_get _ _ _ (by rw [τ.zero_length]; omega) hj'] at e2
              exact zero_one τ c (List.mem_of_getElem? e2)
            obtain ⟨cells', s', f1, f2, f3, f4, f5, f6, f7, _⟩ := setParts_sound R l parts Parts.toList _ xs l H _ Sub.none hs (fun r hr => hr) hp hsz0 Bare.none hr0 h10
            have f4' := bare_hsub f3 (fun q hq => (f6 q hq).resolve_left fun e => by cases e) f4
            have hrun : (Instr.buildSlice t len Parts).run cx.P w = .ok (.slice (some ⟨w.heap.size, 0, none⟩) len len) (w.alloc (.cells cells' e0)) := by
              have hnl : ¬ (16777216 < len * τ.sz) := by omega
              have hz' : (zeroValue e0).run cx.P w = .ok z w := by simp [zeroValue, typeInfo, hi, hz]
              have hs' : sizeT cx.P e0 = some τ.sz := (zel_spec hzt).size
              have f1' : Instr.fill (fun i => some (i * τ.sz, τ.sz)) (madeCells z.cells (len * τ.sz)) Parts.toList = some cells' := f1
              by_cases hn : len * τ.sz = 0
              · have hm : madeCells z.cells (len * τ.sz) = #[] := by rw [hn]; simp [madeCells]
                rw [hm] at f1'
                simp [Instr.buildSlice, run_underlying hu, run_sizeOf hs', hn, newRow, Array.range_zero', f1']
              · unfold madeCells at f1'
                simp [Instr.buildSlice, run_underlying hu, run_sizeOf hs', hnl, hn, newRow, hz', f1']
            have R1 := R.dels l
            have hf1 : FreshN cx { st with regs := dels st.regs l } n := by
              refine ⟨⟨?_, hf.1.2.1, hf.1.2.2.1, fun r g hr => hf.1.2.2.2 r g (look_dels_some hr).2⟩, hf.2⟩
              show look (dels st.regs l) n = none
              rw [look_dels]; split; rfl; exact hf.1.1
            have hxl : List.length xs = len := f4'.1
            have hHi : ∀ q m, (q, m) ∈ H → ∃ i : Int, ∃ p, q = .idx i :: p := fun q m hqm => by
              obtain ⟨_, _, ⟨i, v, r, _, e⟩, _⟩ := f7 q m hqm
              exact ⟨(i : Int), r, e⟩
            have R2 := R1.newH hf1 (.row τ (xs : List τ.den) H) (.cells cells' e0) 0 len H (fun w' hw' => by
                refine ⟨Nat.le_of_eq hxl, ?_⟩
                refine ⟨_, e0, _, hw', thaw0 _, ?_, fun k hk => ?_⟩
                · rw [f2]; show 0 + len * τ.sz ≤ len * τ.sz; omega
                · refine Ty.rd_congr _ _ _ _ _ (fun j hj => ?_) (f4'.2 k hk)
                  show _ = cells'[0 + k * τ.sz + j]?
                  rw [Nat.zero_add])
              (fun q m hqm => ⟨q, rfl, hqm⟩)
              (fun q m hqm => by
                obtain ⟨k1, ⟨u, k2, k3⟩, ⟨i, v, r, k5, k6⟩, k4⟩ := f7 q m hqm
                have hmn : m ≠ n := fun e => by
                  have := List.all_eq_true.1 hHn _ hqm
                  subst e; simp at this
                subst k6
                have k1' : 0 ≤ (i : Int) ∧ (i : Int) < (len : Int) ∧ pok τ r := k1
                have k2' : pty τ r = some u := k2
                refine ⟨hmn, ⟨k1'.1, by rw [hxl]; exact k1'.2.1, k1'.2.2⟩, ⟨u, k2', k3⟩, fun w' hw' gm hgm => ?_⟩
                have h4 := k4 gm hgm
                show cellAt w' (some w.heap.size) (0 + (i : Int).toNat * τ.sz + poff τ r) = _
                simp only [cellAt, hw', Nat.zero_add]
                exact h4)
            refine ⟨_, _, setLoc φ n (mkSubH (some w.heap.size) 0 len H), hrun, ?_, ?_⟩
            · rw [app_dels]; exact R2
            · rw [app_dels]
              exact sl_new (u := τ) (xs := (xs : List τ.den)) (by rw [Eff.app, Eff.app, EffI.app, look_upd, if_pos rfl]) (by rw [hxl, setLoc_same]; simp [Sub.addr, Sub.blk, Sub.off, Sub.cap, mkSubH])
          · cases h
        · cases h
      · cases h
    · cases h
  · cases h

/-! ### the lesser, the greater -/
def lesser (g : Bool) (a b : Int) : Int := if g then (if b > a then b else a) else (if b < a then b else a)
def minStep (g : Bool) (k : IntKind) (m : Int) : List SV → Option Int
  | [] => some m
  | .val (.int k') b :: rest => if k = k' then minStep g k (lesser g m b) rest else none
  | _ => none
def minV' (g : Bool) : List SV → Option SV
  | .val (.int k) a :: rest => (minStep g k a rest).map (vI k)
  | _ => none
theorem minStep_sound {P : Program} {rs : Regs} {φ : Phi} {ok : Nat → Prop} {w : World} {k : IntKind} (g : Bool) : ∀ (xs : List SV) (Xs : List Value) (m z : Int), minStep g k m xs = some z → All2 (SVRel rs φ ok w) xs Xs →
    (Xs.foldlM (if g then Builtin.max2 else Builtin.min2) (Value.int k m)).run P w = .ok (.int k z) w := by
  intro xs
  induction xs with
  | nil => intro Xs m z h hx; cases hx; simp [minStep] at h; subst h; simp
  | cons x xs ih =>
    intro Xs m z h hx
    cases hx with
    | cons hv ht =>
      unfold minStep at h
      split at h
      · rename_i heq; cases heq
      · rename_i k' b rest heq
        cases heq
        split at h
        · rename_i hk
          subst hk
          have eV := VRel.int_eq hv
          subst eV
          have := ih _ _ _ h ht
          cases g
          · simpa [List.foldlM_cons, Builtin.min2, lesser] using this
          · simpa [List.foldlM_cons, Builtin.max2, lesser] using this
        · cases h
      · cases h
theorem minV_sound {P : Program} {rs : Regs} {φ : Phi} {ok : Nat → Prop} {w : World} {ts : Array TypeId} {t : TypeId} {xs : List SV} {Xs : Array Value} {v : SV} (g : Bool) (h : minV' g xs = some v) (hx : All2 (SVRel rs φ ok w) xs Xs.toList) :
    ∃ V, ((if g then Builtin.max_ else Builtin.min_) ts t Xs).run P w = .ok V w ∧ SVRel rs φ ok w v V := by
  unfold minV' at h
  split at h
  · rename_i k a rest
    rw [Option.map_eq_some_iff] at h
    obtain ⟨z, hz, rfl⟩ := h
    cases hX : Xs.toList with
    | nil => rw [hX] at hx; cases hx
    | cons X Xs' =>
      rw [hX] at hx
      cases hx with
      | cons hv ht =>
        have eV := VRel.int_eq hv
        subst eV
        have := minStep_sound (P := P) g _ _ _ _ hz ht
        refine ⟨_, ?_, VRel.of_int _ _ _ _⟩
        cases g
        · show (Builtin.min_ ts t Xs).run P w = _
          simp only [Builtin.min_, hX]
          exact this
        · show (Builtin.max_ ts t Xs).run P w = _
          simp only [Builtin.max_, hX]
          exact this
  · cases h

end Go.Lift
/- Structs compared. -/
namespace Go.Lift
open Go

def eqD : (τ : Ty) → τ.den → τ.den → Bool
  | .int _, x, y => @BEq.beq Int _ x y
  | .bool, x, y => @BEq.beq Bool _ x y
  | .str, x, y => x.toList == y.toList
  | .pair a b, x, y => eqD a x.1 y.1 && eqD b x.2 y.2
  | .unit, _, _ => true
  | _, _, _ => false
def scalT (P : Program) (t : TypeId) : Ty → Bool
  | .int _ => match P.underlying t with
    | some (.int _) => true
    | _ => false
  | .bool => match P.underlying t with
    | some .bool => true
    | _ => false
  | .str => match P.underlying t with
    | some .string => true
    | _ => false
  | _ => false
def eqFs (P : Program) : List Field → Ty → Nat → Bool
  | [], .unit, _ => true
  | f :: fs, .pair a b, o => f.name != "_" && f.offset == o && scalT P f.type a && fits P f.type a && eqFs P fs b (o + a.sz)
  | _, _, _ => false
def eqAgg (P : Program) (t : TypeId) (τ : Ty) : Bool :=
  match P.underlying t with
  | some (.struct fs) => !P.stoodInHeld t && !P.eqGuardType P.depth t && τ.agg && eqFs P fs.toList τ 0
  | _ => false

theorem eqScal {P : Program} {ok : Nat → Prop} {w : World} {t : TypeId} {τ : Ty} {x y : τ.den} {X Y : Value} (h : scalT P t τ = true) (hx : VRel ok w τ x X) (hy : VRel ok w τ y Y) (d : Nat) :
    (Op.equalIn (d + 1) t X Y).run P w = .ok (eqD τ x y) w := by
  unfold scalT at h
  split at h
  · split at h
    · rename_i k hu
      have eX := VRel.int_eq hx
      have eY := VRel.int_eq hy
      subst eX; subst eY
      rw [run_equalIn_int w d t _ _ _ _ hu]; rfl
    · cases h
  · split at h
    · rename_i hu
      have eX := VRel.bool_eq hx
      have eY := VRel.bool_eq hy
      subst eX; subst eY
      rw [run_equalIn_bool' w d t _ _ hu]; rfl
    · cases h
  · split at h
    · rename_i hu
      have eX := VRel.str_eq hx
      have eY := VRel.str_eq hy
      subst eX; subst eY
      rw [run_equalIn_string w d t _ _ hu]; rfl
    · cases h
  · cases h

theorem eqFs_run {P : Program} {ok : Nat → Prop} {w : World} {xs ys : Array Value} (d : Nat) : ∀ (fs : List Field) (τ : Ty) (o : Nat) (x y : τ.den), eqFs P fs τ o = true →
    τ.rd ok w Sub.none x (fun j => xs[o + j]?) → τ.rd ok w Sub.none y (fun j => ys[o + j]?) → (Op.eqFields (d + 1) xs ys fs).run P w = .ok (eqD τ x y) w := by
  intro fs
  induction fs with
  | nil =>
    intro τ o x y h hx hy
    cases τ <;> first | (simp [eqFs] at h; done) | skip
    simp [Op.eqFields, eqD]
  | cons f fs ih =>
    intro τ o x y h hx hy
    cases τ <;> first | (simp [eqFs] at h; done) | skip
    rename_i a b
    simp only [eqFs, Bool.and_eq_true, bne_iff_ne, ne_eq, beq_iff_eq] at h
    obtain ⟨⟨⟨⟨h1, h2⟩, h3⟩, h4⟩, h5⟩ := h
    subst h2
    obtain ⟨hx1, hx2⟩ := hx
    obtain ⟨hy1, hy2⟩ := hy
    obtain ⟨X, e1, e2⟩ := run_part_rd (P := P) h4 hx1
    obtain ⟨Y, g1, g2⟩ := run_part_rd (P := P) h4 hy1
    have he := eqScal h3 e2 g2 d
    have hr := ih b (f.offset + a.sz) x.2 y.2 h5 (by simpa [Nat.add_assoc] using hx2) (by simpa [Nat.add_assoc] using hy2)
    simp only [Op.eqFields, ne_eq, h1, not_false_eq_true, if_true, Sem.run_bind, e1, g1, he, Result.andThen_ok, Sem.run_ite, hr, eqD]
    cases eqD a x.1 y.1 <;> simp

theorem eqAgg_run {P : Program} {ok : Nat → Prop} {w : World} {t : TypeId} {τ : Ty} {x y : τ.den} {X Y : Value} (xo yo : Operand) (h : eqAgg P t τ = true) (hx : VRel ok w τ x X) (hy : VRel ok w τ y Y) :
    (do eqGuard .eql t xo yo X Y; binOp .eql t X Y : Sem Value).run P w = .ok (.bool (eqD τ x y)) w ∧ (do eqGuard .neq t xo yo X Y; binOp .neq t X Y : Sem Value).run P w = .ok (.bool (!eqD τ x y)) w := by
  unfold eqAgg at h
  split at h
  · rename_i fs hu
    simp only [Bool.and_eq_true, Bool.not_eq_true'] at h
    obtain ⟨⟨⟨h1, h2⟩, h3⟩, h4⟩ := h
    have hX : ∃ cs, X = .agg cs := by
      have := hx.2.2
      rw [h3] at this
      cases X <;> simp [Value.isAgg] at this
      exact ⟨_, rfl⟩
    have hY : ∃ cs, Y = .agg cs := by
      have := hy.2.2
      rw [h3] at this
      cases Y <;> simp [Value.isAgg] at this
      exact ⟨_, rfl⟩
    obtain ⟨cs, rfl⟩ := hX
    obtain ⟨ds, rfl⟩ := hY
    have hf : P.fieldsOf t = fs := by simp [Program.fieldsOf, hu]
    have key : (Op.equalIn 10000 t (.agg cs) (.agg ds)).run P w = .ok (eqD τ x y) w := by
      rw [run_equalIn_agg w 9999 t cs ds (by rw [hf]; exact hu) h1, hf]
      refine eqFs_run (ok := ok) 9998 fs.toList τ 0 x y h4 ?_ ?_
      · simpa [Value.cells] using hx.1
      · simpa [Value.cells] using hy.1
    constructor
    · simp only [Sem.run_bind, run_eqGuard_agg w .eql t xo yo cs ds h2, Result.andThen_ok, run_eql_struct, key]
    · simp only [Sem.run_bind, run_eqGuard_agg w .neq t xo yo cs ds h2, Result.andThen_ok, run_neq_struct, key]
  · cases h
end Go.Lift
/- Maps whose keys are strings or structs of scalars, their values plain. -/
namespace Go.Lift
open Go

def keyT (P : Program) (t : TypeId) (k : Ty) : Bool :=
  match k with
  | .str => scalT P t .str
  | .pair a b => (match P.underlying t with
    | some (.struct fs) => !P.stoodInHeld t && eqFs P fs.toList (.pair a b) 0
    | _ => false)
  | _ => false

section pure
variable {β : Type}
def findK (k : Ty) : List (k.den × β) → k.den → Option β
  | [], _ => none
  | e :: es, x => if eqD k x e.1 = true then some e.2 else findK k es x
def putK (k : Ty) : List (k.den × β) → k.den → β → List (k.den × β)
  | [], x, y => [(x, y)]
  | e :: es, x, y => if eqD k x e.1 = true then (x, y) :: es else e :: putK k es x y
def getKO (k : Ty) (o : Option (List (k.den × β))) (x : k.den) : Option β :=
  match o with
  | some es => findK k es x
  | none => none
def putKO (k : Ty) (o : Option (List (k.den × β))) (x : k.den) (y : β) : Option (List (k.den × β)) :=
  match o with
  | some es => some (putK k es x y)
  | none => none
theorem entK_absent {k : Ty} (hl : ∀ x y : k.den, eqD k x y = true ↔ x = y) : ∀ {es : List (k.den × β)} {x : k.den}, (∀ e ∈ es, e.1 ≠ x) → findK k es x = none ∧ ∀ y, putK k es x y = es ++ [(x, y)]
  | [], x, _ => ⟨rfl, fun _ => rfl⟩
  | e :: es, x, h => by
    obtain ⟨h1, h3⟩ := entK_absent hl (es := es) (x := x) fun e he => h e (.tail _ he)
    have hne : ¬ eqD k x e.1 = true := fun e0 => h e (.head _) ((hl _ _).1 e0).symm
    exact ⟨by simp [findK, hne, h1], fun y => by simp [putK, hne, h3]⟩
theorem entK_at {k : Ty} (hl : ∀ x y : k.den, eqD k x y = true ↔ x = y) : ∀ {es : List (k.den × β)} {x : k.den} {j : Nat} (h : j < es.length), es.Pairwise (fun a b => a.1 ≠ b.1) → es[j].1 = x →
    findK k es x = some es[j].2 ∧ ∀ y, putK k es x y = es.set j (x, y)
  | [], _, _, h, _, _ => by simp at h
  | e :: es, x, 0, _, _, hx => by
    have hx : eqD k x e.1 = true := (hl _ _).2 (Eq.symm hx)
    exact ⟨by simp [findK, hx], fun y => by simp [putK, hx]⟩
  | e :: es, x, j + 1, h, hp, hx => by
    obtain ⟨hp1, hp2⟩ := List.pairwise_cons.1 hp
    have hj : j < es.length := by simpa using h
    have hx' : es[j].1 = x := by simpa using hx
    obtain ⟨h1, h3⟩ := entK_at hl hj hp2 hx'
    have hne : ¬ eqD k x e.1 = true := fun e0 => hp1 es[j] (List.getElem_mem hj) (((hl _ _).1 e0).symm.trans hx'.symm)
    exact ⟨by simp [findK, hne, h1], fun y => by simp [putK, hne, h3]⟩
end pure

theorem bytes_toList_inj {a b : ByteArray} (h : a.toList = b.toList) : a = b := by
  have e : ∀ c : ByteArray, c.toList = c.data.toList := fun c => ByteArray.toList_eq c
  rw [e, e] at h
  obtain ⟨⟨x⟩⟩ := a
  obtain ⟨⟨y⟩⟩ := b
  simp at h
  rw [h]
theorem eqScal_law {P : Program} {t : TypeId} {τ : Ty} (h : scalT P t τ = true) (x y : τ.den) : eqD τ x y = true ↔ x = y := by
  cases τ <;> first | (simp [scalT] at h; done) | skip
  · exact beq_iff_eq (α := Int)
  · exact beq_iff_eq (α := Bool)
  · exact ⟨fun e => bytes_toList_inj (by simpa [eqD] using e), fun e => by subst e; simp [eqD]⟩
theorem eqFs_law {P : Program} : ∀ (fs : List Field) (τ : Ty) (o : Nat), eqFs P fs τ o = true → ∀ x y : τ.den, eqD τ x y = true ↔ x = y := by
  intro fs
  induction fs with
  | nil =>
    intro τ o h x y
    cases τ <;> first | (simp [eqFs] at h; done) | skip
    exact ⟨fun _ => rfl, fun _ => rfl⟩
  | cons f fs ih =>
    intro τ o h x y
    cases τ <;> first | (simp [eqFs] at h; done) | skip
    rename_i a b
    simp only [eqFs, Bool.and_eq_true] at h
    obtain ⟨⟨⟨⟨_, _⟩, h3⟩, _⟩, h5⟩ := h
    obtain ⟨x1, x2⟩ := x
    obtain ⟨y1, y2⟩ := y
    simp only [eqD, Bool.and_eq_true, eqScal_law h3, ih b _ h5]
    constructor
    · rintro ⟨rfl, rfl⟩; rfl
    · intro e; cases e; exact ⟨rfl, rfl⟩
theorem keyT_law {P : Program} {t : TypeId} {k : Ty} (h : keyT P t k = true) (x y : k.den) : eqD k x y = true ↔ x = y := by
  unfold keyT at h
  split at h
  · exact eqScal_law h x y
  · split at h
    · rename_i fs _
      simp only [Bool.and_eq_true] at h
      exact eqFs_law _ _ _ h.2 x y
    · cases h
  · cases h
def scalV : Value → Bool
  | .int _ _ => true
  | .bool _ => true
  | .string _ => true
  | _ => false
theorem sameBits_scal {v : Value} (h : scalV v = true) (n : Nat) : Instr.sameBits n v v = true := by
  cases v <;> first | (simp [scalV] at h; done) | simp [Instr.sameBits]
  exact (MapKept.bytes_beq _ _).2 rfl
theorem scal_cells {P : Program} {ok : Nat → Prop} {w w' : World} {t : TypeId} {τ : Ty} {s s' : Sub} {x : τ.den} {c d : Nat → Option Value} (h : scalT P t τ = true) (hx : τ.rd ok w s x c) (hy : τ.rd ok w' s' x d) :
    ∀ i, i < τ.sz → c i = d i ∧ ∃ v, c i = some v ∧ scalV v = true := by
  intro i hi
  cases τ <;> first | (simp [scalT] at h; done) | skip
  all_goals
    have h0 : i = 0 := by simp [Ty.sz] at hi; exact hi
    subst h0
    have hx : c 0 = some _ := hx
    have hy : d 0 = some _ := hy
    exact ⟨hx.trans hy.symm, _, hx, rfl⟩
theorem eqFs_cells {P : Program} {ok : Nat → Prop} {w w' : World} : ∀ (fs : List Field) (τ : Ty) (o : Nat) (s s' : Sub) (x : τ.den) (c d : Nat → Option Value), eqFs P fs τ o = true → τ.rd ok w s x c → τ.rd ok w' s' x d →
    ∀ i, i < τ.sz → c i = d i ∧ ∃ v, c i = some v ∧ scalV v = true := by
  intro fs
  induction fs with
  | nil =>
    intro τ o s s' x c d h hx hy i hi
    cases τ <;> first | (simp [eqFs] at h; done) | skip
    simp [Ty.sz] at hi
  | cons f fs ih =>
    intro τ o s s' x c d h hx hy i hi
    cases τ <;> first | (simp [eqFs] at h; done) | skip
    rename_i a b
    simp only [eqFs, Bool.and_eq_true] at h
    obtain ⟨⟨⟨⟨_, _⟩, h3⟩, _⟩, h5⟩ := h
    obtain ⟨hx1, hx2⟩ := hx
    obtain ⟨hy1, hy2⟩ := hy
    by_cases hia : i < a.sz
    · exact scal_cells h3 hx1 hy1 i hia
    · have := ih b _ _ _ _ _ _ h5 hx2 hy2 (i - a.sz) (by simp [Ty.sz] at hi; omega)
      simpa [show a.sz + (i - a.sz) = i from by omega] using this
/-- What a key's value is, is told by what it tells. -/
theorem key_one {P : Program} {ok : Nat → Prop} {w w' : World} {t : TypeId} {k : Ty} {x : k.den} {X Y : Value} (h : keyT P t k = true) (hx : VRel ok w k x X) (hy : VRel ok w' k x Y) :
    X = Y ∧ Instr.sameBits 10000 X X = true := by
  unfold keyT at h
  split at h
  · have eX := VRel.str_eq hx
    have eY := VRel.str_eq hy
    subst eX; subst eY
    exact ⟨rfl, sameBits_scal rfl _⟩
  · rename_i a b
    split at h
    · rename_i fs _
      simp only [Bool.and_eq_true] at h
      have hc := eqFs_cells fs.toList (.pair a b) 0 Sub.none Sub.none x _ _ h.2 hx.1 hy.1
      have hX : ∃ cs, X = .agg cs := by
        have := hx.2.2
        cases X <;> simp [Value.isAgg, Ty.agg] at this
        exact ⟨_, rfl⟩
      have hY : ∃ cs, Y = .agg cs := by
        have := hy.2.2
        cases Y <;> simp [Value.isAgg, Ty.agg] at this
        exact ⟨_, rfl⟩
      obtain ⟨cs, rfl⟩ := hX
      obtain ⟨ds, rfl⟩ := hY
      have s1 : cs.size = (Ty.pair a b).sz := hx.2.1
      have s2 : ds.size = (Ty.pair a b).sz := hy.2.1
      have e : cs = ds := by
        apply Array.ext (s1.trans s2.symm)
        intro i h1 h2
        have h3 : cs[i]? = ds[i]? := (hc i (by rw [← s1]; exact h1)).1
        rw [Array.getElem?_eq_getElem h1, Array.getElem?_eq_getElem h2] at h3
        exact Option.some.inj h3
      subst e
      refine ⟨rfl, ?_⟩
      simp only [Instr.sameBits, beq_self_eq_true, Bool.true_and, List.all_eq_true]
      rintro ⟨u, v⟩ huv
      obtain ⟨i, hi, e⟩ := List.getElem_of_mem huv
      have hi' : i < cs.size := by simpa using hi
      simp only [List.getElem_zip, Prod.mk.injEq] at e
      obtain ⟨e1, e2⟩ := e
      obtain ⟨v', h4, h5⟩ := (hc i (by rw [← s1]; exact hi')).2
      have h4 : cs[i]? = some v' := h4
      rw [Array.getElem?_eq_getElem hi'] at h4
      have h4 := Option.some.inj h4
      have e1 : cs[i] = u := by simpa using e1
      have e2 : cs[i] = v := by simpa using e2
      rw [← e1, ← e2, h4]
      exact sameBits_scal h5 _
    · cases h
  · cases h

theorem scal_check {P : Program} {ok : Nat → Prop} {w : World} {t : TypeId} {k : Ty} {x : k.den} {X : Value} (h : scalT P t k = true) (hx : VRel ok w k x X) (em : Bool) (n : Nat) : (Instr.checkKey em (n + 1) t X).run P w = .ok () w := by
  unfold scalT at h
  split at h
  · split at h
    · rename_i kk hu
      have := VRel.int_eq hx; subst this
      unfold Instr.checkKey; simp [run_underlying hu, Result.andThen]
    · cases h
  · split at h
    · rename_i hu
      have := VRel.bool_eq hx; subst this
      unfold Instr.checkKey; simp [run_underlying hu, Result.andThen]
    · cases h
  · split at h
    · rename_i hu
      have := VRel.str_eq hx; subst this
      unfold Instr.checkKey; simp [run_underlying hu, Result.andThen]
    · cases h
  · cases h
theorem key_check {P : Program} {ok : Nat → Prop} {w : World} {t : TypeId} {k : Ty} {x : k.den} {X : Value} (h : keyT P t k = true) (hx : VRel ok w k x X) (em : Bool) : (Instr.checkKey em 10000 t X).run P w = .ok () w := by
  unfold keyT at h
  split at h
  · exact scal_check h hx em 9999
  · rename_i a b
    split at h
    · rename_i fs hu
      simp only [Bool.and_eq_true] at h
      have hX : ∃ cs, X = .agg cs := by
        have := hx.2.2
        cases X <;> simp [Value.isAgg, Ty.agg] at this
        exact ⟨_, rfl⟩
      obtain ⟨cs, rfl⟩ := hX
      rw [show (10000 : Nat) = 9999 + 1 from rfl, Instr.checkKey]
      simp only [Sem.run_bind, run_underlying hu, Result.andThen_ok]
      rw [← Array.forIn_toList]
      have key : ∀ (L : List Field) (τ : Ty) (o : Nat) (x : τ.den), eqFs P L τ o = true → τ.rd ok w Sub.none x (fun j => cs[o + j]?) →
          (forIn L PUnit.unit fun f _ => (do
            if f.name ≠ "_" then Instr.checkKey em 9999 f.type (← part f.type cs f.offset)
            pure (ForInStep.yield PUnit.unit) : Sem (ForInStep PUnit))).run P w = .ok PUnit.unit w := by
        intro L
        induction L with
        | nil => intro τ o x _ _; simp
        | cons f L ih =>
          intro τ o x h hx
          cases τ <;> first | (simp [eqFs] at h; done) | skip
          rename_i a b
          simp only [eqFs, Bool.and_eq_true, bne_iff_ne, ne_eq, beq_iff_eq] at h
          obtain ⟨⟨⟨⟨h1, h2⟩, h3⟩, h4⟩, h5⟩ := h
          subst h2
          obtain ⟨hx1, hx2⟩ := hx
          obtain ⟨X, e1, e2⟩ := run_part_rd (P := P) h4 hx1
          have hck : (Instr.checkKey em 9999 f.type X).run P w = .ok () w := scal_check h3 e2 em 9998
          have hr := ih b (f.offset + a.sz) x.2 h5 (by simpa [Nat.add_assoc] using hx2)
          simp only [List.forIn_cons, Sem.run_bind, h1, ne_eq, not_false_eq_true, if_true, Result.andThen_ok, e1, hck, Sem.run_pure]
          exact hr
      have := key fs.toList (.pair a b) 0 x h.2 (by simpa [Value.cells] using hx.1)
      simp only [this, Sem.run_bind, Result.andThen_ok, Sem.run_pure]
    · cases h
  · cases h

/-- The machine's search among keys. -/
theorem key_ask {P : Program} {ok : Nat → Prop} {w : World} {t : TypeId} {k : Ty} {β : Type} {x : k.den} {X : Value} (h : keyT P t k = true) (hx : VRel ok w k x X) :
    ∀ (es : List (k.den × β)) (ms : List MapEntry) (n : Nat), ms.length = es.length → (∀ i (h : i < es.length) (h' : i < ms.length), VRel ok w k (es[i]'h).1 ms[i].key) →
      ((∀ e ∈ es, e.1 ≠ x) ∧ (Instr.findAsking t X ms n).run P w = .ok none w) ∨ ∃ j, ∃ (h : j < es.length) (h' : j < ms.length), es[j].1 = x ∧ (Instr.findAsking t X ms n).run P w = .ok (some (n + j, ms[j].val)) w
  | [], [], n, _, _ => .inl ⟨by simp, by simp [Instr.findAsking]⟩
  | [], _ :: _, _, hl, _ => by simp at hl
  | _ :: _, [], _, hl, _ => by simp at hl
  | e :: es, m :: ms, n, hl, hk => by
    have h0 : VRel ok w k e.1 m.key := hk 0 (by simp) (by simp)
    have heq : (Op.equal t X m.key).run P w = .ok (eqD k x e.1) w := by
      unfold keyT at h
      split at h
      · exact eqScal h hx h0 9999
      · rename_i a b
        split at h
        · rename_i fs hu
          simp only [Bool.and_eq_true, Bool.not_eq_true'] at h
          have hX : ∃ cs, X = .agg cs := by
            have := hx.2.2
            cases X <;> simp [Value.isAgg, Ty.agg] at this
            exact ⟨_, rfl⟩
          have hY : ∃ cs, m.key = .agg cs := by
            have := h0.2.2
            cases hm : m.key <;> simp [hm, Value.isAgg, Ty.agg] at this
            exact ⟨_, rfl⟩
          obtain ⟨cs, rfl⟩ := hX
          obtain ⟨ds, hds⟩ := hY
          rw [hds] at h0 ⊢
          have hf : P.fieldsOf t = fs := by simp [Program.fieldsOf, hu]
          show (Op.equalIn 10000 t (.agg cs) (.agg ds)).run P w = _
          rw [run_equalIn_agg w 9999 t cs ds (by rw [hf]; exact hu) h.1, hf]
          refine eqFs_run (ok := ok) 9998 fs.toList _ 0 x e.1 h.2 ?_ ?_
          · simpa [Value.cells] using hx.1
          · simpa [Value.cells] using h0.1
        · cases h
      · cases h
    by_cases hxe : eqD k x e.1 = true
    · right
      refine ⟨0, by simp, by simp, ((keyT_law h _ _).1 hxe).symm, ?_⟩
      simp [Instr.findAsking, heq, hxe]
    · rcases key_ask h hx es ms (n + 1) (by simpa using hl) (fun i hi hi' => hk (i + 1) (by simpa using hi) (by simpa using hi')) with ⟨h1, h2⟩ | ⟨j, h1, h2, h3, h4⟩
      · left
        refine ⟨fun e' he' => ?_, by simp [Instr.findAsking, heq, hxe, h2]⟩
        cases he' with
        | head => exact fun e0 => hxe ((keyT_law h _ _).2 e0.symm)
        | tail _ he' => exact h1 e' he'
      · right
        refine ⟨j + 1, by simpa using h1, by simpa using h2, by simpa using h3, ?_⟩
        simp [Instr.findAsking, heq, hxe, h4]; omega
theorem key_now {ok : Nat → Prop} {w : World} {β : Type} {x : ByteArray} : ∀ (es : List (ByteArray × β)) (ms : List MapEntry) (n : Nat), ms.length = es.length → (∀ i (h : i < es.length) (h' : i < ms.length), VRel ok w .str (es[i]'h).1 ms[i].key) →
      ((∀ e ∈ es, e.1 ≠ x) ∧ Instr.findNow .string (.string x) ms n = some none) ∨ ∃ j, ∃ (h : j < es.length) (h' : j < ms.length), es[j].1 = x ∧ Instr.findNow .string (.string x) ms n = some (some (n + j, ms[j].val))
  | [], [], n, _, _ => .inl ⟨by simp, by simp [Instr.findNow]⟩
  | [], _ :: _, _, hl, _ => by simp at hl
  | _ :: _, [], _, hl, _ => by simp at hl
  | e :: es, m :: ms, n, hl, hk => by
    have h0 : m.key = .string e.1 := VRel.str_eq (hk 0 (by simp) (by simp))
    have hs : Instr.sameNow .string (.string x) m.key = some (x == e.1) := by rw [h0]; rfl
    by_cases hxe : x = e.1
    · right
      refine ⟨0, by simp, by simp, hxe.symm, ?_⟩
      simp [Instr.findNow, hs, (MapKept.bytes_beq _ _).2 hxe]
    · have hb : (x == e.1) = false := by
        cases hq : x == e.1 with
        | false => rfl
        | true => exact (hxe ((MapKept.bytes_beq _ _).1 hq)).elim
      rcases key_now (x := x) es ms (n + 1) (by simpa using hl) (fun i hi hi' => hk (i + 1) (by simpa using hi) (by simpa using hi')) with ⟨h1, h2⟩ | ⟨j, h1, h2, h3, h4⟩
      · left
        refine ⟨fun e' he' => ?_, by simp [Instr.findNow, hs, hb, h2]⟩
        cases he' with
        | head => exact fun e0 => hxe e0.symm
        | tail _ he' => exact h1 e' he'
      · right
        refine ⟨j + 1, by simpa using h1, by simpa using h2, by simpa using h3, ?_⟩
        simp [Instr.findNow, hs, hb, h4]; omega
theorem key_find {P : Program} {ok : Nat → Prop} {w : World} {t : TypeId} {k : Ty} {β : Type} {x : k.den} {X : Value} (h : keyT P t k = true) (hx : VRel ok w k x X)
    (es : List (k.den × β)) (ms : List MapEntry) (hl : ms.length = es.length) (hk : ∀ i (h : i < es.length) (h' : i < ms.length), VRel ok w k (es[i]'h).1 ms[i].key) :
      ((∀ e ∈ es, e.1 ≠ x) ∧ (Instr.findKey t X ms).run P w = .ok none w) ∨ ∃ j, ∃ (h : j < es.length) (h' : j < ms.length), es[j].1 = x ∧ (Instr.findKey t X ms).run P w = .ok (some (j, ms[j].val)) w := by
  have h0 := h
  unfold keyT at h
  split at h
  · have eX := VRel.str_eq hx
    subst eX
    have hu : P.underlying t = some .string := by
      simp only [scalT] at h
      split at h
      · assumption
      · cases h
    rcases key_now (x := x) es ms 0 hl hk with ⟨h1, h2⟩ | ⟨j, h1, h2, h3, h4⟩
    · exact .inl ⟨h1, MapKept.run_findKey hu h2⟩
    · exact .inr ⟨j, h1, h2, h3, MapKept.run_findKey hu (by simpa using h4)⟩
  · split at h
    · rename_i fs hu
      have hw : (Instr.findKey t X ms).run P w = (Instr.findAsking t X ms).run P w := by
        cases ms with
        | nil => simp [Instr.findKey, run_underlying hu, Instr.findNow, Instr.findAsking]
        | cons m ms => simp [Instr.findKey, run_underlying hu, Instr.findNow, Instr.sameNow]
      rw [hw]
      rcases key_ask h0 hx es ms 0 hl hk with h1 | ⟨j, h1, h2, h3, h4⟩
      · exact .inl h1
      · exact .inr ⟨j, h1, h2, h3, by simpa using h4⟩
    · cases h
  · cases h

/-! ### a map of such keys in the machine -/
structure MapK (ok : Nat → Prop) (w : World) (k v : Ty) (es : List (k.den × v.den)) (ms : Array MapEntry) (clock : Nat) : Prop where
  sz : ms.size = es.length
  st : Stamped ms clock
  df : Differ es
  en : ∀ i (h : i < es.length) (h' : i < ms.size), VRel ok w k (es[i]'h).1 ms[i].key ∧ VRel ok w v (es[i]'h).2 ms[i].val
theorem keyT_ent {P : Program} {t : TypeId} {k : Ty} (h : keyT P t k = true) (s : Sub) (x : k.den) : s.ent k x = Sub.none := by
  cases k <;> first | rfl | (simp [keyT] at h)
theorem mapK_iff {P : Program} {t : TypeId} {k v : Ty} (h : keyT P t k = true) (hv : v.plain = true) {ok : Nat → Prop} {w w' : World} {s : Sub} {es : List (k.den × v.den)} :
    mapC ok w w' k v s es ↔ (s []).off = 0 ∧ ∃ b ms clock, (s []).blk = some b ∧ w'.heap[b]? = some (.map ms clock) ∧ MapK ok w k v es ms clock := by
  constructor
  · rintro ⟨h0, b, ms, clock, h1, h2, h3, h4, h5, h6⟩
    refine ⟨h0, b, ms, clock, h1, h2, h3, h4, h5, fun i h h' => ?_⟩
    obtain ⟨k1, k2, k3, k4, k5, k6⟩ := h6 i h h'
    exact ⟨⟨k1, k2, k3⟩, Ty.rd_plain _ _ _ _ _ hv k4, k5, k6⟩
  · rintro ⟨h0, b, ms, clock, h1, h2, ⟨h3, h4, h5, h6⟩⟩
    refine ⟨h0, b, ms, clock, h1, h2, h3, h4, h5, fun i h h' => ?_⟩
    obtain ⟨⟨k1, k2, k3⟩, k4, k5, k6⟩ := h6 i h h'
    exact ⟨k1, k2, k3, Ty.rd_plain _ _ _ _ _ hv k4, k5, k6⟩
theorem MapK.find {P : Program} {t : TypeId} {ok : Nat → Prop} {w : World} {k v : Ty} {es : List (k.den × v.den)} {ms : Array MapEntry} {clock : Nat} (M : MapK ok w k v es ms clock) (h : keyT P t k = true) {x : k.den} {X : Value} (hx : VRel ok w k x X) :
    ((∀ e ∈ es, e.1 ≠ x) ∧ (Instr.findKey t X ms.toList).run P w = .ok none w) ∨ ∃ j, ∃ (h : j < es.length) (h' : j < ms.size), es[j].1 = x ∧ (Instr.findKey t X ms.toList).run P w = .ok (some (j, ms[j].val)) w := by
  rcases key_find h hx es ms.toList (by simp [M.sz]) (fun i h h' => by simpa using (M.en i h (by simpa using h')).1) with h1 | ⟨j, h1, h2, h3, h4⟩
  · exact .inl h1
  · exact .inr ⟨j, h1, by simpa using h2, h3, by simpa using h4⟩

def lookupK (P : Program) (rs : Regs) (t : TypeId) (x i : SV) (ok : Bool) : Option (List Prop × AV) :=
  match P.underlying t, x, i with
  | some (.map kt vt), .mp r, .val ki z => match look rs r with
    | some (.mp k v o []) => if (keyT P kt k && v.plain) = true then match castTy ki k z, zty P vt with
      | some z', some u => if u = v then some ([], lookR ok (.val v ((getKO k o z').getD v.dflt)) (getKO k o z').isSome) else none
      | _, _ => none
      else none
    | _ => none
  | _, _, _ => none
theorem lookupK_sound {cx : Cx} {φ : Phi} {st : St} {a : Act} {w : World} (R : RelF cx φ st a w) {t : TypeId} {x i : SV} {c : Bool} {v : AV} {vc : List Prop} {X I : Value}
    (h : lookupK cx.P st.regs t x i c = some (vc, v)) (hx : SVRel st.regs φ (okOf st.regs φ) w x X) (hi : SVRel st.regs φ (okOf st.regs φ) w i I) :
    ∃ V, (Instr.lookup t X I c).run cx.P w = .ok V w ∧ AVRel st.regs φ (okOf st.regs φ) w v V := by
  have L := R.lay
  unfold lookupK at h
  split at h
  · rename_i kt vt r ki z ht
    split at h
    · rename_i k vT o hl
      split at h
      · rename_i hc
        simp only [Bool.and_eq_true] at hc
        obtain ⟨hk, hpl⟩ := hc
        split at h
        · rename_i z' u hz' hz
          split at h
          · rename_i hu
            subst hu
            cases h
            obtain ⟨e, hez⟩ := castTy_some hz'
            subst e
            have hez : z = z' := hez
            subst hez
            have eX : X = .map (φ r).blk := hx _ _ _ _ hl
            subst eX
            have hI : VRel (okOf st.regs φ) w ki z I := hi
            have hat := L.rg r _ hl
            obtain ⟨d, hz1, hz2, _⟩ := (zty_spec hz).run (okOf st.regs φ) w w
            cases o with
            | none =>
              have h1 : ((φ r) []).blk = none := hat
              have h1 : (φ r).blk = none := h1
              rw [h1]
              have hf : (Instr.findKey kt I []).run cx.P w = .ok none w := by
                rcases key_find (β := Unit) hk hI [] [] rfl (fun i h => by simp at h) with ⟨_, h2⟩ | ⟨j, h2, _⟩
                · exact h2
                · simp at h2
              refine ⟨if c = true then .tuple #[d, .bool false] else d, ?_, ?_⟩
              · cases c <;> simp [Instr.lookup, run_underlying ht, Result.andThen, key_check hk hI, hf, hz1]
              · exact lookR_rel (b := false) hz2
            | some es =>
              obtain ⟨h0, b, ms, clock, e1, e2, M⟩ := (mapK_iff hk hpl).1 hat
              have e1 : (φ r).blk = some b := e1
              rw [e1]
              rcases M.find hk hI with ⟨f1, f2⟩ | ⟨j, hj, hj', f1, f2⟩
              · have hg : getKO ki (some es) z = none := (entK_absent (keyT_law hk) f1).1
                refine ⟨if c = true then .tuple #[d, .bool false] else d, ?_, ?_⟩
                · cases c <;> simp [Instr.lookup, run_underlying ht, Result.andThen, MapKept.run_getObj_map e2, key_check hk hI, f2, hz1]
                · rw [hg]; exact lookR_rel (b := false) hz2
              · have hg : getKO ki (some es) z = some es[j].2 := (entK_at (keyT_law hk) hj (differ_pw.1 M.df) f1).1
                refine ⟨if c = true then .tuple #[ms[j].val, .bool true] else ms[j].val, ?_, ?_⟩
                · cases c <;> simp [Instr.lookup, run_underlying ht, Result.andThen, MapKept.run_getObj_map e2, key_check hk hI, f2]
                · rw [hg]; exact lookR_rel (b := true) (show VRel _ _ _ _ _ from (M.en j hj hj').2)
          · cases h
        · cases h
      · cases h
    · cases h
  · cases h

theorem MapK.set {ok : Nat → Prop} {w : World} {k v : Ty} {es : List (k.den × v.den)} {ms : Array MapEntry} {clock : Nat} (M : MapK ok w k v es ms clock) {x : k.den} {j : Nat} (h : j < es.length) (hx : es[j].1 = x) (y : v.den) (f : MapEntry → MapEntry)
    (hf : ∀ e, (f e).born = e.born) (hk : VRel ok w k x (f (ms[j]'(by rw [M.sz]; exact h))).key) (hr : VRel ok w v y (f (ms[j]'(by rw [M.sz]; exact h))).val) :
    MapK ok w k v (es.set j (x, y)) (ms.modify j f) clock := by
  have hb : ∀ i (hi : i < (ms.modify j f).size), (ms.modify j f)[i].born = (ms[i]'(by simpa using hi)).born := by
    intro i hi
    rw [Array.getElem_modify]
    split
    · exact hf _
    · rfl
  refine ⟨by simp [M.sz], ⟨fun i k hi hk hik => ?_, fun i hi => ?_⟩, fun i k hi hk hik => ?_, fun i hi hi' => ?_⟩
  · rw [hb, hb]; exact M.st.1 i k _ _ hik
  · rw [hb]; exact M.st.2 i _
  · have hil : i < es.length := by simpa using hi
    have hkl : k < es.length := by simpa using hk
    have e : ∀ n (hn : n < es.length), ((es.set j (x, y))[n]'(by simpa using hn)).1 = es[n].1 := by
      intro n hn
      rw [List.getElem_set]
      split
      · rename_i e; subst e; exact hx.symm
      · rfl
    rw [e i hil, e k hkl]
    exact M.df i k hil hkl hik
  · have hil : i < es.length := by simpa using hi
    have him : i < ms.size := by simpa using hi'
    by_cases e : j = i
    · subst e
      have e1 : (es.set j (x, y))[j] = (x, y) := by simp
      have e2 : (ms.modify j f)[j] = f ms[j] := by rw [Array.getElem_modify]; simp
      rw [e1, e2]
      exact ⟨hk, hr⟩
    · have e1 : (es.set j (x, y))[i] = es[i] := by rw [List.getElem_set_ne e]
      have e2 : (ms.modify j f)[i] = ms[i] := by rw [Array.getElem_modify]; simp [e]
      rw [e1, e2]
      exact M.en i hil him
theorem MapK.push {ok : Nat → Prop} {w : World} {k v : Ty} {es : List (k.den × v.den)} {ms : Array MapEntry} {clock : Nat} (M : MapK ok w k v es ms clock) {x : k.den} (hx : ∀ e ∈ es, e.1 ≠ x) (y : v.den) {X V : Value}
    (hk : VRel ok w k x X) (hr : VRel ok w v y V) :
    MapK ok w k v (es ++ [(x, y)]) (ms.push { key := X, val := V, born := clock }) (clock + 1) := by
  refine ⟨by simp [M.sz], ⟨fun i k hi hk hik => ?_, fun i hi => ?_⟩, ?_, fun i hi hi' => ?_⟩
  · simp only [Array.getElem_push]
    have hi2 : i < ms.size + 1 := by simpa using hi
    have hk2 : k < ms.size + 1 := by simpa using hk
    split <;> split
    · exact M.st.1 i k _ _ hik
    · exact M.st.2 i _
    · omega
    · omega
  · simp only [Array.getElem_push]
    split
    · have := M.st.2 i ‹_›; omega
    · simp
  · rw [differ_pw]
    refine List.pairwise_append.2 ⟨differ_pw.1 M.df, by simp, ?_⟩
    intro a ha b hb
    simp only [List.mem_singleton] at hb
    subst hb
    exact hx a ha
  · by_cases e : i < es.length
    · have e1 : (es ++ [(x, y)])[i] = es[i] := by rw [List.getElem_append_left e]
      have e2 : (ms.push { key := X, val := V, born := clock })[i] = ms[i]'(by rw [M.sz]; exact e) := by rw [Array.getElem_push]; simp [M.sz, e]
      rw [e1, e2]
      exact M.en i e (by rw [M.sz]; exact e)
    · have hi2 : i < es.length + 1 := by simpa using hi
      have e0 : i = es.length := by omega
      subst e0
      have e1 : (es ++ [(x, y)])[es.length] = (x, y) := by simp
      have e2 : (ms.push { key := X, val := V, born := clock })[es.length]'hi' = { key := X, val := V, born := clock } := by
        rw [Array.getElem_push]; simp [M.sz]
      rw [e1, e2]
      exact ⟨hk, hr⟩
theorem RelF.mapSetK {cx : Cx} {φ : Phi} {st : St} {a : Act} {w : World} (R : RelF cx φ st a w) {r : Nat} {k v : Ty} {es es' : List (k.den × v.den)} {b : Nat} {ms' : Array MapEntry} {clock' : Nat} {o : Obj} {P : Program} {t : TypeId} (hk : keyT P t k = true) (hv : v.plain = true)
    (hl : look st.regs r = some (.mp k v (some es) [])) (hb : (φ r).blk = some b) (hob : w.heap[b]? = some o) (M : MapK (okOf st.regs φ) w k v es' ms' clock') :
    RelF cx (setLoc φ r (φ r)) { st with regs := upd (without st.regs (some r)) r (some (.mp k v (some es') [])) } a { w with heap := w.heap.setIfInBounds b (.map ms' clock') } := by
  have L := R.lay
  obtain ⟨hset, hoth⟩ := MapKept.heap_set (o' := Obj.map ms' clock') hob
  refine R.step (w' := { w with heap := w.heap.setIfInBounds b (.map ms' clock') }) (some r) r _ _ (fun b0 hb0 => .inr ⟨r, _, rfl, hl, hb0⟩) (fun q b0 _ hb0 => L.al r _ b0 hl ⟨q, hb0⟩)
    (fun b0 hb0 => by simpa using L.al r _ b0 hl hb0) (L.inj r _ hl) ?_ (.inr ⟨rfl, ⟨rfl, rfl, rfl⟩, _, hl, rfl, rfl⟩) (fun l0 _ hf => by have := hf.1; rw [hl] at this; cases this) ?_ ?_ ?_ ?_ rfl rfl rfl (by simp)
  · intro b0 _ hne
    refine hoth b0 fun e => hne ?_
    rw [hb, e]
  · obtain ⟨h0, _⟩ := (mapK_iff hk hv).1 (L.rg r _ hl)
    exact (mapK_iff hk hv).2 ⟨h0, b, ms', clock', hb, hset, M⟩
  · intro p m hpm; cases hpm
  · intro q hq
    obtain ⟨q0, m, k1, _⟩ := L.told r _ hl q hq
    cases k1
  · intro p m hpm; cases hpm

def updK (P : Program) (rs : Regs) (t : TypeId) (x i y : SV) : Option (List Prop × Eff) :=
  match P.underlying t, x, i, y with
  | some (.map kt _), .mp r, .val ki z, .val vy y => match look rs r with
    | some (.mp k v o []) => if (keyT P kt k && v.plain) = true then match castTy ki k z, castTy vy v y with
      | some z', some y' => some ([o.isSome = true], [.set (some r) r (.mp k v (putKO k o z' y') [])])
      | _, _ => none
      else none
    | _ => none
  | _, _, _, _ => none
theorem updK_sound {cx : Cx} {φ : Phi} {st : St} {a : Act} {w : World} (R : RelF cx φ st a w) {t : TypeId} {x i y : SV} {vc : List Prop} {e : Eff} {X I Y : Value}
    (h : updK cx.P st.regs t x i y = some (vc, e)) (hvc : ∀ p ∈ vc, p) (hx : SVRel st.regs φ (okOf st.regs φ) w x X) (hi : SVRel st.regs φ (okOf st.regs φ) w i I) (hy : SVRel st.regs φ (okOf st.regs φ) w y Y) :
    ∃ w' φ', (Instr.mapUpdate t X I Y).run cx.P w = .ok () w' ∧ RelF cx φ' { st with regs := e.app st.regs } a w' := by
  have L := R.lay
  unfold updK at h
  split at h
  · rename_i kt vt r ki z vy y ht
    split at h
    · rename_i k vT o hl
      split at h
      · rename_i hc
        simp only [Bool.and_eq_true] at hc
        obtain ⟨hk, hpl⟩ := hc
        split at h
        · rename_i z' y' hz' hy'
          cases h
          obtain ⟨e, hez⟩ := castTy_some hz'
          subst e
          have hez : z = z' := hez
          subst hez
          obtain ⟨e, hez⟩ := castTy_some hy'
          subst e
          have hez : y = y' := hez
          subst hez
          have eX : X = .map (φ r).blk := hx _ _ _ _ hl
          subst eX
          have hI : VRel (okOf st.regs φ) w ki z I := hi
          have hY : VRel (okOf st.regs φ) w vy y Y := hy
          have ho : o.isSome = true := hvc _ (by simp)
          obtain ⟨es, rfl⟩ := Option.isSome_iff_exists.1 ho
          obtain ⟨h0, b, ms, clock, e1, e2, M⟩ := (mapK_iff hk hpl).1 (L.rg r _ hl)
          have e1 : (φ r).blk = some b := e1
          rcases M.find hk hI with ⟨f1, f2⟩ | ⟨j, hj, hj', f1, f2⟩
          · have hp : putK ki es z y = es ++ [(z, y)] := (entK_absent (keyT_law hk) f1).2 y
            refine ⟨_, _, ?_, RelF.mapSetK R hk hpl hl e1 e2 (es' := putK ki es z y) (by rw [hp]; exact M.push f1 y hI hY)⟩
            rw [e1]
            simp [Instr.mapUpdate, run_underlying ht, MapKept.run_getObj_map e2, key_check hk hI, f2, MapKept.run_setObj_map _ e2, Result.andThen]
          · have hp : putK ki es z y = es.set j (z, y) := (entK_at (keyT_law hk) hj (differ_pw.1 M.df) f1).2 y
            have hkj := (M.en j hj hj').1
            rw [f1] at hkj
            obtain ⟨g1, g2⟩ := key_one hk hkj hI
            refine ⟨_, _, ?_, RelF.mapSetK R hk hpl hl e1 e2 (es' := putK ki es z y) (ms' := ms.modify j fun e => { e with key := I, val := Y }) (by rw [hp]; exact M.set hj f1 y _ (fun _ => rfl) hI hY)⟩
            rw [e1]
            have hjo : ms[j]? = some ms[j] := by simp [hj']
            have hst : (Instr.keyThatStays I I).run cx.P w = .ok I w := by
              rw [g1] at g2
              simp [Instr.keyThatStays, g2]
            simp [Instr.mapUpdate, run_underlying ht, MapKept.run_getObj_map e2, key_check hk hI, f2, hjo, g1, hst, MapKept.run_setObj_map _ e2, Result.andThen]
        · cases h
      · cases h
    · cases h
  · cases h

def makeMapK (P : Program) (t : TypeId) (l : Option SV) (n : Nat) : Option (SV × Eff) :=
  match tyOf P 12 t, P.underlying t, l with
  | some (.map k v), some (.map kt _), none => if (keyT P kt k && v.plain) = true then some (.mp n, [.set none n (.mp k v (some []) [])]) else none
  | _, _, _ => none
theorem makeMapK_sound {cx : Cx} {φ : Phi} {st : St} {a : Act} {w : World} (R : RelF cx φ st a w) {n : Nat} (hf : FreshN cx st n) {t : TypeId} {l : Option SV} {v : SV} {e : Eff} {Lv : Option Value}
    (h : makeMapK cx.P t l n = some (v, e)) (hl : OptV' st.regs φ (okOf st.regs φ) w l Lv) :
    ∃ V w' φ', (Instr.makeMap t Lv).run cx.P w = .ok V w' ∧ RelF cx φ' { st with regs := e.app st.regs } a w' ∧ SVRel (e.app st.regs) φ' (okOf (e.app st.regs) φ') w' v V := by
  unfold makeMapK at h
  split at h
  · rename_i k vT kt vt _ _
    split at h
    · rename_i hc
      simp only [Bool.and_eq_true] at hc
      cases h
      cases Lv with
      | some _ => exact hl.elim
      | none =>
        refine ⟨.map (some w.heap.size), _, _, ?_, R.newH hf (.mp k vT (some []) []) (.map #[] 0) 0 0 [] (fun w' hw' => (mapK_iff hc.1 hc.2).2 ⟨rfl, w.heap.size, #[], 0, rfl, hw', rfl, ⟨fun i j hi => by simp at hi, fun i hi => by simp at hi⟩, fun i j hi => by simp at hi, fun i hi => by simp at hi⟩)
          (fun q m h => by cases h) (fun p m h => by cases h), fun k vt o H hg => ?_⟩
        · simp [Instr.makeMap, Result.andThen]
        · rw [setLoc_same]; rfl
    · cases h
  · cases h
end Go.Lift
