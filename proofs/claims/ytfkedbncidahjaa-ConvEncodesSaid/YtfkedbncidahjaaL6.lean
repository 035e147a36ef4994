/- Addresses and makers, abstract, and that they tell what the machine does. -/
import Derived.Test.YtfkedbncidahjaaL5
set_option linter.unusedVariables false
set_option linter.unusedSimpArgs false
namespace Go.Lift
open Go

/-! ### paths joined -/
theorem pty_append : ∀ (p : List Step) (t u : Ty) (q : List Step), pty t p = some u → pty t (p ++ q) = pty u q := by
  intro p
  induction p with
  | nil => intro t u q h; simp only [pty, Option.some.injEq] at h; subst h; rfl
  | cons s p ih =>
    intro t u q h
    cases t <;> cases s <;> simp only [pty, List.cons_append] at h ⊢ <;> first | exact ih _ _ _ h | cases h
theorem poff_append : ∀ (p : List Step) (t u : Ty) (q : List Step), pty t p = some u → poff t (p ++ q) = poff t p + poff u q := by
  intro p
  induction p with
  | nil => intro t u q h; simp only [pty, Option.some.injEq] at h; subst h; simp [poff]
  | cons s p ih =>
    intro t u q h
    cases t <;> cases s <;> simp only [pty, List.cons_append, poff] at h ⊢ <;> first | (cases h; done) | (rw [ih _ _ _ h]; done) | (rw [ih _ _ _ h]; omega)
theorem pok_append : ∀ (p : List Step) (t u : Ty) (q : List Step), pty t p = some u → pok t p → pok u q → pok t (p ++ q) := by
  intro p
  induction p with
  | nil => intro t u q h _ hq; simp only [pty, Option.some.injEq] at h; subst h; exact hq
  | cons s p ih =>
    intro t u q h hp hq
    cases t <;> cases s <;> simp only [pty, List.cons_append, pok] at h hp ⊢ <;> try (cases h; done)
    · exact ih _ _ _ h hp hq
    · exact ih _ _ _ h hp hq
    · exact ⟨hp.1, hp.2.1, ih _ _ _ h hp.2.2 hq⟩

def fpath : Nat → List Step
  | 0 => [.fst]
  | k + 1 => .snd :: fpath k
theorem pok_fpath : ∀ (k : Nat) (t u : Ty), pty t (fpath k) = some u → pok t (fpath k) := by
  intro k
  induction k with
  | zero => intro t u h; cases t <;> simp only [fpath, pty, pok] at h ⊢ <;> cases h
  | succ k ih => intro t u h; cases t <;> simp only [fpath, pty, pok] at h ⊢ <;> first | exact ih _ _ h | cases h

/-- Field k of a struct type: its type's number, its offset. -/
def fieldOf (P : Program) (s : TypeId) (k : Nat) : Option (TypeId × Nat) :=
  match P.underlying s with
  | some (.struct fs) => (fs[k]?).map fun f => (f.type, f.offset)
  | _ => none

theorem run_fieldAt {P : Program} {s : TypeId} {k ft off : Nat} {sz : Nat} (h : fieldOf P s k = some (ft, off)) (hs : sizeT P ft = some sz) (h0 : sz ≠ 0) (b o : Nat) (w : World) :
    (Instr.fieldAt s (.pointer (some ⟨b, o, none⟩)) k).run P w = .ok (.pointer (some ⟨b, o + off, none⟩)) w := by
  unfold fieldOf at h
  split at h
  · rename_i fs hu
    rw [Option.map_eq_some_iff] at h
    obtain ⟨f, hf, e⟩ := h
    cases e
    simp [Instr.fieldAt, run_underlying hu, hf, Instr.sureAddr, fieldPlace, run_sizeOf hs, h0, add_mk]
  · cases h

def fieldA (P : Program) (rs : Regs) (s : TypeId) (x : SV) (k : Nat) : Option (List Prop × SV × Eff) :=
  match fieldOf P s k with
  | none => none
  | some (ft, off) =>
    match x with
    | .ra t x => match pty t (fpath k) with
      | some u => if sizeT P ft = some u.sz ∧ u.sz ≠ 0 ∧ poff t (fpath k) = off then (pget t x (fpath k) u).map (fun y => ([], .ra u y, [])) else none
      | none => none
    | .addr r p => match look rs r with
      | some (.box τ _) => match pty τ p with
        | some u0 => match pty u0 (fpath k) with
          | some u => if sizeT P ft = some u.sz ∧ u.sz ≠ 0 ∧ poff u0 (fpath k) = off then some ([], .addr r (p ++ fpath k), []) else none
          | none => none
        | none => none
      | some (.row τ _) => match p with
        | .idx i :: p => match pty τ p with
          | some u0 => match pty u0 (fpath k) with
            | some u => if sizeT P ft = some u.sz ∧ u.sz ≠ 0 ∧ poff u0 (fpath k) = off then some ([], .addr r (.idx i :: (p ++ fpath k)), []) else none
            | none => none
          | none => none
        | _ => none
      | some (.obox τ o) => match p with
        | [] => match pty τ (fpath k) with
          | some u => if sizeT P ft = some u.sz ∧ u.sz ≠ 0 ∧ poff τ (fpath k) = off then some ([o.isSome = true], .addr r (fpath k), [.set (some r) r (.box τ (o.getD τ.dflt))]) else none
          | none => none
        | _ => none
      | none => none
    | _ => none

/-- A region that may be nothing, and is something, is a box. -/
theorem RelF.open {cx : Cx} {φ : Phi} {st : St} {a : Act} {w : World} (R : RelF cx φ st a w) {r : Nat} {τ : Ty} {o : Option τ.den} (hl : look st.regs r = some (.obox τ o)) (ho : o.isSome = true) :
    RelF cx φ { st with regs := upd (without st.regs (some r)) r (some (.box τ (o.getD τ.dflt))) } a w := by
  obtain ⟨x, rfl⟩ := Option.isSome_iff_exists.1 ho
  have h2 := R.rg r _ hl
  obtain ⟨f0, b, cs, ty, fz, f1, f2, f3, f4, f5⟩ := h2
  have hstep := R.step (w' := w) (some r) r (.box τ x) (φ r)
    (fun b0 hb0 => .inr ⟨r, _, rfl, hl, hb0⟩) (fun b0 _ hne => rfl)
    (.inr ⟨rfl, rfl, _, hl, rfl⟩) (fun l0 _ hf => by have := hf.1; rw [hl] at this; cases this)
    ⟨f0, b, cs, ty, fz, f1, f2, f3, f4, f5⟩ rfl rfl rfl (Nat.le_refl _)
  have hφ : setLoc φ r (φ r) = φ := setLoc_self φ r
  rw [hφ] at hstep
  exact hstep

theorem fieldA_sound {cx : Cx} {φ : Phi} {st : St} {a : Act} {w : World} (R : RelF cx φ st a w) {s : TypeId} {k : Nat} {x v : SV} {vc : List Prop} {e : Eff} {X : Value}
    (h : fieldA cx.P st.regs s x k = some (vc, v, e)) (hvc : ∀ p ∈ vc, p) (hx : SVRel st.regs φ (okOf st.regs φ) w x X) :
    ∃ V, (Instr.fieldAt s X k).run cx.P w = .ok V w ∧ RelF cx φ { st with regs := e.app st.regs } a w ∧ SVRel (e.app st.regs) φ (okOf (e.app st.regs) φ) w v V := by
  unfold fieldA at h
  split at h
  · cases h
  · rename_i ft off hfo
    split at h
    · rename_i t x
      split at h
      · rename_i u hp
        split at h
        · rename_i hc
          obtain ⟨hsz, h0, hoff⟩ := hc
          rw [Option.map_eq_some_iff] at h
          obtain ⟨y, hy, e⟩ := h
          cases e
          obtain ⟨b, o, cs, ty, fz, e1, e2, e3, e4⟩ := hx
          subst e1
          have := rd_pget _ _ _ _ _ _ e4 (pok_fpath k t u hp) hy
          refine ⟨_, run_fieldAt hfo hsz h0 b o w, R, ⟨b, o + off, cs, ty, fz, rfl, e2, e3, ?_⟩⟩
          rw [hoff] at this
          exact (by simpa only [Nat.add_assoc] using this : u.rd (okOf st.regs φ) w y (fun j => cs[o + off + j]?))
        · cases h
      · cases h
    · rename_i r p
      split at h
      · rename_i τ y hl
        split at h
        · rename_i u0 hp0
          split at h
          · rename_i u hp
            split at h
            · rename_i hc
              obtain ⟨hsz, h0, hoff⟩ := hc
              cases h
              obtain ⟨b, e1, e2, e3⟩ := hx _ hl
              subst e3
              refine ⟨_, run_fieldAt hfo hsz h0 _ _ w, R, ?_⟩
              intro g hg
              have hg' : look st.regs r = some g := hg
              rw [hl] at hg'; cases hg'
              refine ⟨b, e1, pok_append _ _ _ _ hp0 e2 (pok_fpath k u0 u hp), ?_⟩
              rw [poff_append _ _ _ _ hp0, hoff]
            · cases h
          · cases h
        · cases h
      · rename_i τ xs hl
        split at h
        · rename_i i p
          split at h
          · rename_i u0 hp0
            split at h
            · rename_i u hp
              split at h
              · rename_i hc
                obtain ⟨hsz, h0, hoff⟩ := hc
                cases h
                obtain ⟨i', p', b, e0, e1, e2, e3, e4, e5⟩ := hx _ hl
                cases e0
                subst e5
                refine ⟨_, run_fieldAt hfo hsz h0 _ _ w, R, ?_⟩
                intro g hg
                have hg' : look st.regs r = some g := hg
                rw [hl] at hg'; cases hg'
                refine ⟨i, p ++ fpath k, b, rfl, e1, e2, pok_append _ _ _ _ hp0 e3 (pok_fpath k u0 u hp), e4, ?_⟩
                rw [poff_append _ _ _ _ hp0, hoff]
                simp only [Nat.add_assoc]
              · cases h
            · cases h
          · cases h
        · cases h
      · rename_i τ o hl
        split at h
        · split at h
          · rename_i u hp
            split at h
            · rename_i hc
              obtain ⟨hsz, h0, hoff⟩ := hc
              cases h
              have ho : o.isSome = true := hvc _ (by simp)
              have R1 := R.open hl ho
              obtain ⟨_, e2, e3⟩ := hx _ hl
              rw [ho] at e2
              obtain ⟨b, hb⟩ := Option.isSome_iff_exists.1 e2
              rw [hb] at e3
              have e3' : X = .pointer (some ⟨b, 0, none⟩) := e3
              subst e3'
              refine ⟨_, run_fieldAt hfo hsz h0 _ _ w, R1, ?_⟩
              intro g hg
              have hg' : look (upd (without st.regs (some r)) r (some (.box τ (o.getD τ.dflt)))) r = some g := hg
              rw [look_upd, if_pos rfl] at hg'
              cases hg'
              exact ⟨b, hb, pok_fpath k τ u hp, by rw [hoff, Nat.zero_add]⟩
            · cases h
          · cases h
        · cases h
      · cases h
    · cases h

/-! ### places of arrays and slices -/
def indexA (P : Program) (rs : Regs) (t : TypeId) (x i : SV) : Option (List Prop × SV) :=
  match i with
  | .val (.int _) i =>
    match P.underlying t, x with
    | some (.slice e), .sl r => match look rs r with
      | some (.row τ xs) => if sizeT P e = some τ.sz then some ([0 ≤ i, i < (xs.length : Int)], .addr r [.idx i]) else none
      | _ => none
    | some (.slice e), .val (.ro τ) xs => if sizeT P e = some τ.sz then some ([0 ≤ i, i < (List.length xs : Int)], .ra τ (List.getD xs i.toNat τ.dflt)) else none
    | some (.array n e), .addr r p => match look rs r with
      | some (.box τ _) => match pty τ p with
        | some (.arr m τ') => if sizeT P e = some τ'.sz ∧ n = m then some ([0 ≤ i, i < (m : Int)], .addr r (p ++ [.idx i])) else none
        | _ => none
      | some (.row τ _) => match p with
        | .idx j :: p => match pty τ p with
          | some (.arr m τ') => if sizeT P e = some τ'.sz ∧ n = m then some ([0 ≤ i, i < (m : Int)], .addr r (.idx j :: (p ++ [.idx i]))) else none
          | _ => none
        | _ => none
      | _ => none
    | some (.array n e), .ra (.arr m τ) xs => if sizeT P e = some τ.sz ∧ n = m then some ([0 ≤ i, i < (m : Int)], .ra τ (List.getD xs i.toNat τ.dflt)) else none
    | _, _ => none
  | _ => none

theorem run_indexAt_sl {P : Program} {t e : TypeId} {sz : Nat} (hu : P.underlying t = some (.slice e)) (hs : sizeT P e = some sz) (b o len cap : Nat) (k : IntKind) (i : Int) (h0 : 0 ≤ i) (h1 : i < (len : Int)) (w : World) :
    (Instr.indexAt t (.slice (some ⟨b, o, none⟩) len cap) (.int k i)).run P w = .ok (.pointer (some ⟨b, o + i.toNat * sz, none⟩)) w := by
  simp [Instr.indexAt, run_underlying hu, asIntOf, h0, h1, run_sizeOf hs, add_mk]
theorem run_indexAt_arr {P : Program} {t e : TypeId} {n sz : Nat} (hu : P.underlying t = some (.array n e)) (hs : sizeT P e = some sz) (b o : Nat) (k : IntKind) (i : Int) (h0 : 0 ≤ i) (h1 : i < (n : Int)) (w : World) :
    (Instr.indexAt t (.pointer (some ⟨b, o, none⟩)) (.int k i)).run P w = .ok (.pointer (some ⟨b, o + i.toNat * sz, none⟩)) w := by
  simp [Instr.indexAt, run_underlying hu, asIntOf, h0, h1, run_sizeOf hs, add_mk, Instr.sureAddr]

theorem indexA_sound {cx : Cx} {φ : Phi} {st : St} {a : Act} {w : World} (R : RelF cx φ st a w) {t : TypeId} {x i v : SV} {vc : List Prop} {X I : Value}
    (h : indexA cx.P st.regs t x i = some (vc, v)) (hvc : ∀ p ∈ vc, p) (hx : SVRel st.regs φ (okOf st.regs φ) w x X) (hi : SVRel st.regs φ (okOf st.regs φ) w i I) :
    ∃ V, (Instr.indexAt t X I).run cx.P w = .ok V w ∧ SVRel st.regs φ (okOf st.regs φ) w v V := by
  unfold indexA at h
  split at h
  · rename_i k n
    have eI : I = .int k n := VRel.int_eq hi
    subst eI
    split at h
    · rename_i e r hu
      split at h
      · rename_i τ xs hl
        split at h
        · rename_i hs
          cases h
          have h0 : @LE.le Int _ 0 n := hvc _ (by simp)
          have h1 : @LT.lt Int _ n (xs.length : Int) := hvc _ (by simp)
          have hX := hx _ _ hl
          have h2 := (R.rg r _ hl)
          cases hbl : (φ r).blk with
          | none =>
            have h3 := h2.2
            simp only [hbl] at h3
            have h4 : xs.length ≤ (φ r).cap := h2.1
            omega
          | some b =>
            have hX' : X = .slice (some ⟨b, (φ r).off, none⟩) xs.length (φ r).cap := by rw [hX]; simp [Loc.addr, hbl]
            subst hX'
            refine ⟨_, run_indexAt_sl hu hs _ _ _ _ k n h0 h1 w, ?_⟩
            intro g hg
            rw [hl] at hg; cases hg
            exact ⟨n, [], b, rfl, h0, h1, by simp [pok], hbl, by simp [poff]⟩
        · cases h
      · cases h
    · rename_i e τ xs hu
      split at h
      · rename_i hs
        cases h
        have h0 : @LE.le Int _ 0 n := hvc _ (by simp)
        have h1 : @LT.lt Int _ n (List.length xs : Int) := hvc _ (by simp)
        have hV : VRel _ _ _ _ _ := hx
        obtain ⟨a0, cap, g0, g1, g2⟩ := hV.1
        rw [hV.cells_one rfl] at g0
        have hX : X = .slice a0 (List.length xs) cap := by simpa using g0
        subst hX
        rcases g2 with g2 | ⟨b, off, cs, ty, fz, f1, f2, f3, f4⟩
        · rw [g2] at h1; simp at h1; omega
        · subst f1
          have hi' : n.toNat < List.length xs := by omega
          refine ⟨_, run_indexAt_sl hu hs _ _ _ _ k n h0 h1 w, ⟨b, off + n.toNat * τ.sz, cs, ty, fz, rfl, f2, f3, ?_⟩⟩
          have e : List.getD xs n.toNat τ.dflt = xs[n.toNat] := by simp [List.getD, List.getElem?_eq_getElem hi']
          rw [e]
          exact f4 n.toNat hi'
      · cases h
    · rename_i m e r p hu
      split at h
      · rename_i τ y hl
        split at h
        · rename_i m' τ' hp
          split at h
          · rename_i hc
            obtain ⟨hs, rfl⟩ := hc
            cases h
            have h0 : @LE.le Int _ 0 n := hvc _ (by simp)
            have h1 : @LT.lt Int _ n (m : Int) := hvc _ (by simp)
            obtain ⟨b, e1, e2, e3⟩ := hx _ hl
            subst e3
            refine ⟨_, run_indexAt_arr hu hs _ _ k n h0 h1 w, ?_⟩
            intro g hg
            rw [hl] at hg; cases hg
            exact ⟨b, e1, pok_append _ _ _ _ hp e2 ⟨h0, h1, by simp [pok]⟩, by rw [poff_append _ _ _ _ hp]; simp [poff]⟩
          · cases h
        · cases h
      · rename_i τ xs hl
        split at h
        · rename_i j p
          split at h
          · rename_i m' τ' hp
            split at h
            · rename_i hc
              obtain ⟨hs, rfl⟩ := hc
              cases h
              have h0 : @LE.le Int _ 0 n := hvc _ (by simp)
              have h1 : @LT.lt Int _ n (m : Int) := hvc _ (by simp)
              obtain ⟨i', p', b, e0, e1, e2, e3, e4, e5⟩ := hx _ hl
              cases e0
              subst e5
              refine ⟨_, run_indexAt_arr hu hs _ _ k n h0 h1 w, ?_⟩
              intro g hg
              rw [hl] at hg; cases hg
              refine ⟨j, p ++ [.idx n], b, rfl, e1, e2, pok_append p τ (.arr m τ') [.idx n] hp e3 ⟨h0, h1, by simp [pok]⟩, e4, ?_⟩
              rw [poff_append _ _ _ _ hp]
              simp [poff, Nat.add_assoc]
            · cases h
          · cases h
        · cases h
      · cases h
    · rename_i m e m' τ xs hu
      split at h
      · rename_i hc
        obtain ⟨hs, rfl⟩ := hc
        cases h
        have h0 : @LE.le Int _ 0 n := hvc _ (by simp)
        have h1 : @LT.lt Int _ n (m : Int) := hvc _ (by simp)
        obtain ⟨b, o, cs, ty, fz, e1, e2, e3, e4⟩ := hx
        subst e1
        have hl := e4.1
        have hi' : n.toNat < List.length xs := by omega
        have e : List.getD xs n.toNat τ.dflt = xs[n.toNat] := by simp [List.getD, List.getElem?_eq_getElem hi']
        refine ⟨_, run_indexAt_arr hu hs _ _ k n h0 h1 w, ⟨b, o + n.toNat * τ.sz, cs, ty, fz, rfl, e2, e3, ?_⟩⟩
        rw [e]
        have := e4.2 n.toNat hi'
        simpa only [Nat.add_assoc] using this
      · cases h
    · cases h
  · cases h

end Go.Lift
