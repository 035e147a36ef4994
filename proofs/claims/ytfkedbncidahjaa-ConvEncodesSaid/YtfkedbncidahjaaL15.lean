/- Functions told by a summary: what a call takes and gives. -/
import Derived.Test.YtfkedbncidahjaaL14
set_option linter.unusedVariables false
set_option linter.unusedSimpArgs false
namespace Go.Lift
open Go

inductive PK where
  | v (t : Ty)
  | box (t : Ty)
  | row (t : Ty)
inductive RK where
  | v (t : Ty)
  | vn (t : Ty)
  | row (t : Ty)
  | box (t : Ty)
  | obox (t : Ty)
@[reducible] def PK.den : PK → Type
  | .v t => t.den
  | .box t => t.den
  | .row t => List t.den
@[reducible] def PK.out : PK → Type
  | .v _ => Unit
  | .box t => t.den
  | .row t => List t.den
@[reducible] def RK.den : RK → Type
  | .v t => t.den
  | .row t => List t.den
  | .box t => t.den
  | .obox t => Option t.den
  | .vn t => List t.den
@[reducible] def dens : List PK → Type
  | [] => Unit
  | p :: ps => p.den × dens ps
@[reducible] def outs : List PK → Type
  | [] => Unit
  | p :: ps => p.out × outs ps
@[reducible] def rdens : List RK → Type
  | [] => Unit
  | p :: ps => p.den × rdens ps

structure Summ where
  par : List PK
  res : List RK
  esc : Bool
  pre : dens par → Prop
  fn : dens par → rdens res × outs par

/-- An argument and what it tells; l: where, if it may be written. -/
def PRel (ok okO : Nat → Prop) (w : World) : (p : PK) → p.den → Value → Loc → Prop
  | .v t, x, v, _ => VRel ok w t x v
  | .box t, x, v, l => Reg.at okO w l (.box t x) ∧ ∃ b, l.blk = some b ∧ v = .pointer (some ⟨b, 0, none⟩)
  | .row t, xs, v, l => Reg.at okO w l (.row t xs) ∧ v = .slice l.addr xs.length l.cap
def PsRel (ok okO : Nat → Prop) (w : World) : (ps : List PK) → dens ps → List Value → List Loc → Prop
  | [], _, vs, ls => vs = [] ∧ ls = []
  | p :: ps, x, vs, ls => ∃ v vs' l ls', vs = v :: vs' ∧ ls = l :: ls' ∧ PRel ok okO w p x.1 v l ∧ PsRel ok okO w ps x.2 vs' ls'
def PK.io : PK → Bool
  | .v _ => false
  | _ => true
/-- The places that may be written. -/
def ioLocs : List PK → List Loc → List Loc
  | p :: ps, l :: ls => if p.io then l :: ioLocs ps ls else ioLocs ps ls
  | _, _ => []
/-- What they hold afterwards. -/
def OutRel (ok : Nat → Prop) (w : World) : (ps : List PK) → dens ps → outs ps → List Loc → Prop
  | [], _, _, _ => True
  | .v _ :: ps, x, y, ls => OutRel ok w ps x.2 y.2 ls.tail
  | .box t :: ps, x, y, ls => (∃ l, ls.head? = some l ∧ Reg.at ok w l (.box t y.1)) ∧ OutRel ok w ps x.2 y.2 ls.tail
  | .row t :: ps, x, y, ls => (∃ l, ls.head? = some l ∧ Reg.at ok w l (.row t y.1) ∧ List.length y.1 = List.length x.1) ∧ OutRel ok w ps x.2 y.2 ls.tail

def RRel (ok : Nat → Prop) (w : World) : (r : RK) → r.den → Value → Loc → Prop
  | .v t, x, v, _ => VRel ok w t x v
  | .row t, xs, v, l => Reg.at ok w l (.row t xs) ∧ v = .slice l.addr xs.length l.cap
  | .box t, x, v, l => Reg.at ok w l (.box t x) ∧ v = .pointer (l.blk.map fun b => ⟨b, 0, none⟩)
  | .obox t, o, v, l => Reg.at ok w l (.obox t o) ∧ v = .pointer (l.blk.map fun b => ⟨b, 0, none⟩)
  | .vn t, xs, v, _ => VRel ok w (.ro t) xs v ∧ ((xs : List t.den) = [] → v = .slice none 0 0)
def RsRel (ok : Nat → Prop) (w : World) : (rs : List RK) → rdens rs → List Value → List Loc → Prop
  | [], _, vs, ls => vs = [] ∧ ls = []
  | r :: rs, x, vs, ls => ∃ v vs' l ls', vs = v :: vs' ∧ ls = l :: ls' ∧ RRel ok w r x.1 v l ∧ RsRel ok w rs x.2 vs' ls'
def RK.fresh : RK → Bool
  | .v _ => false
  | .vn _ => false
  | _ => true
def freshLocs : List RK → List Loc → List Loc
  | r :: rs, l :: ls => if r.fresh then l :: freshLocs rs ls else freshLocs rs ls
  | _, _ => []
def blks (ls : List Loc) : List Nat := ls.filterMap Loc.blk

/-- One value, or a tuple of several. -/
def retVal (vs : List Value) : Value :=
  match vs with
  | [v] => v
  | vs => .tuple vs.toArray

def SumOK (P : Program) (f : FuncId) (S : Summ) : Prop :=
  ∀ (x : dens S.par) (args : List Value) (ls : List Loc) (w : World) (ok okO : Nat → Prop), S.pre x → PsRel ok okO w S.par x args ls →
    (blks (ioLocs S.par ls)).Nodup → (∀ b ∈ blks (ioLocs S.par ls), ¬ ok b ∧ ¬ okO b) →
    Calls P f args.toArray w fun e w' => ∃ (vs : List Value) (rl : List Loc), e = .returned (retVal vs) ∧
      Kept (fun b => b ∈ blks (ioLocs S.par ls)) w.heap.size w w' ∧
      RsRel (fun b => (w.heap.size ≤ b ∧ b ∉ blks (freshLocs S.res rl)) ∨ (S.esc = true ∧ (ok b ∨ okO b) ∧ b < w.heap.size)) w' S.res (S.fn x).1 vs rl ∧
      (blks (freshLocs S.res rl)).Nodup ∧ (∀ b ∈ blks (freshLocs S.res rl), w.heap.size ≤ b) ∧
      OutRel (fun b => (w.heap.size ≤ b ∧ b ∉ blks (freshLocs S.res rl)) ∨ (S.esc = true ∧ ok b ∧ b < w.heap.size) ∨ (okO b ∧ b < w.heap.size)) w' S.par x (S.fn x).2 ls

/-! ### many regions at once -/
structure Chg where
  id : Nat
  reg : Reg
  loc : Loc
def Chg.eff (old : Bool) (c : Chg) : EffI := .set (if old then some c.id else none) c.id c.reg
def setLocsF (φ : Phi) : List Chg → Nat → Loc
  | [] => φ
  | c :: cs => fun r => if r = c.id then c.loc else setLocsF φ cs r
def setLocs (φ : Phi) (L : List Chg) : Phi := ⟨setLocsF φ L, φ.base⟩
def applyAll (rs : Regs) : List (Bool × Chg) → Regs
  | [] => rs
  | (o, c) :: cs => applyAll ((Chg.eff o c).app rs) cs
theorem look_eff (rs : Regs) (o : Bool) (c : Chg) (s : Nat) : look ((Chg.eff o c).app rs) s = if c.id = s then some c.reg else look rs s := by
  cases o
  · simp [Chg.eff, EffI.app, look_upd, without]
  · simp only [Chg.eff, EffI.app, look_upd, if_true, look_without]
    split
    · rfl
    · rename_i h; rw [if_neg (by simpa using h)]
theorem look_applyAll_not : ∀ (L : List (Bool × Chg)) (rs : Regs) (s : Nat), (∀ oc ∈ L, oc.2.id ≠ s) → look (applyAll rs L) s = look rs s
  | [], _, _, _ => rfl
  | (o, c) :: L, rs, s, h => by
    simp only [applyAll]
    rw [look_applyAll_not L _ s (fun oc hoc => h oc (List.mem_cons_of_mem _ hoc)), look_eff, if_neg (h (o, c) (List.mem_cons_self ..))]
theorem look_applyAll_mem : ∀ (L : List (Bool × Chg)) (rs : Regs) (o : Bool) (c : Chg), (L.map (·.2.id)).Nodup → (o, c) ∈ L → look (applyAll rs L) c.id = some c.reg
  | [], _, _, _, _, h => by cases h
  | (o', c') :: L, rs, o, c, hn, h => by
    simp only [List.map_cons, List.nodup_cons] at hn
    simp only [applyAll]
    rcases List.mem_cons.1 h with h | h
    · cases h
      rw [look_applyAll_not L _ _ (fun oc hoc e => hn.1 (by rw [← e]; exact List.mem_map_of_mem hoc)), look_eff, if_pos rfl]
    · exact look_applyAll_mem L _ o c hn.2 h
theorem look_applyAll_some {L : List (Bool × Chg)} {rs : Regs} {s : Nat} {g : Reg} (hn : (L.map (·.2.id)).Nodup) (h : look (applyAll rs L) s = some g) :
    (∃ o c, (o, c) ∈ L ∧ c.id = s ∧ c.reg = g) ∨ ((∀ oc ∈ L, oc.2.id ≠ s) ∧ look rs s = some g) := by
  by_cases hm : ∃ oc ∈ L, oc.2.id = s
  · obtain ⟨⟨o, c⟩, h1, h2⟩ := hm
    have := look_applyAll_mem L rs o c hn h1
    have h2' : c.id = s := h2
    rw [h2', h] at this
    cases this
    exact .inl ⟨o, c, h1, h2', rfl⟩
  · have hm' : ∀ oc ∈ L, oc.2.id ≠ s := fun oc hoc e => hm ⟨oc, hoc, e⟩
    rw [look_applyAll_not L rs s hm'] at h
    exact .inr ⟨hm', h⟩
theorem setLocsF_not : ∀ (L : List Chg) (φ : Phi) (s : Nat), (∀ c ∈ L, c.id ≠ s) → setLocsF φ L s = φ s
  | [], _, _, _ => rfl
  | c :: L, φ, s, h => by
    simp only [setLocsF]
    rw [if_neg (fun e => h c (List.mem_cons_self ..) e.symm)]
    exact setLocsF_not L φ s fun c hc => h c (List.mem_cons_of_mem _ hc)
theorem setLocs_not (L : List Chg) (φ : Phi) (s : Nat) (h : ∀ c ∈ L, c.id ≠ s) : setLocs φ L s = φ s := setLocsF_not L φ s h
theorem setLocsF_mem : ∀ (L : List Chg) (φ : Phi) (c : Chg), (L.map (·.id)).Nodup → c ∈ L → setLocsF φ L c.id = c.loc
  | [], _, _, _, h => by cases h
  | c' :: L, φ, c, hn, h => by
    simp only [List.map_cons, List.nodup_cons] at hn
    simp only [setLocsF]
    rcases List.mem_cons.1 h with h | h
    · subst h; rw [if_pos rfl]
    · rw [if_neg (fun e => hn.1 (by rw [← e]; exact List.mem_map_of_mem h))]
      exact setLocsF_mem L φ c hn.2 h
theorem setLocs_mem (L : List Chg) (φ : Phi) (c : Chg) (h : (L.map (·.id)).Nodup) (hc : c ∈ L) : setLocs φ L c.id = c.loc := setLocsF_mem L φ c h hc

theorem RelF.many {cx : Cx} {φ : Phi} {st : St} {a : Act} {w w' : World} (R : RelF cx φ st a w) (L : List (Bool × Chg))
    (hn : (L.map (·.2.id)).Nodup)
    (hold : ∀ c, (true, c) ∈ L → φ c.id = c.loc ∧ ∃ g, look st.regs c.id = some g ∧ SameKind g c.reg)
    (hnew : ∀ c, (false, c) ∈ L → FreshN cx st c.id ∧ ∀ b, c.loc.blk = some b → w.heap.size ≤ b)
    (hsep : ∀ c c' b, (false, c) ∈ L → (false, c') ∈ L → c.loc.blk = some b → c'.loc.blk = some b → c.id = c'.id)
    (hother : ∀ b, b < w.heap.size → (∀ c, (true, c) ∈ L → c.loc.blk ≠ some b) → w'.heap[b]? = w.heap[b]?)
    (hat : ∀ o c, (o, c) ∈ L → c.reg.at (okOf (applyAll st.regs L) (setLocs φ (L.map (·.2)))) w' c.loc)
    (hos : w'.os = w.os) (htape : w'.tape = w.tape) (hout : w'.output = w.output) (hsize : w.heap.size ≤ w'.heap.size) :
    RelF cx (setLocs φ (L.map (·.2))) { st with regs := applyAll st.regs L } a w' := by
  have hn' : ((L.map (·.2)).map (·.id)).Nodup := by rw [List.map_map]; exact hn
  have hφm : ∀ o c, (o, c) ∈ L → setLocs φ (L.map (·.2)) c.id = c.loc := fun o c h => setLocs_mem _ φ c hn' (List.mem_map.2 ⟨(o, c), h, rfl⟩)
  have hφn : ∀ s, (∀ oc ∈ L, oc.2.id ≠ s) → setLocs φ (L.map (·.2)) s = φ s := fun s h => setLocs_not _ φ s (fun c hc => by
    obtain ⟨oc, h1, h2⟩ := List.mem_map.1 hc
    subst h2; exact h oc h1)
  -- where a live region's block is
  have hblk : ∀ s g b, look (applyAll st.regs L) s = some g → (setLocs φ (L.map (·.2)) s).blk = some b → w.heap.size ≤ b ∨ ∃ g0, look st.regs s = some g0 ∧ (φ s).blk = some b := by
    intro s g b h1 h2
    rcases look_applyAll_some hn h1 with ⟨o, c, hm, e1, e2⟩ | ⟨hm, hl⟩
    · subst e1
      rw [hφm o c hm] at h2
      cases o with
      | false => exact .inl ((hnew c hm).2 b h2)
      | true =>
        obtain ⟨e3, g0, e4, _⟩ := hold c hm
        exact .inr ⟨g0, e4, by rw [e3]; exact h2⟩
    · rw [hφn s hm] at h2
      exact .inr ⟨g, hl, h2⟩
  have hm : ∀ b o, okOf st.regs φ b → w.heap[b]? = some o → okOf (applyAll st.regs L) (setLocs φ (L.map (·.2))) b ∧ w'.heap[b]? = some o := by
    intro b o hok hh
    have hlt : b < w.heap.size := by
      rcases Nat.lt_or_ge b w.heap.size with h1 | h1
      · exact h1
      · simp [Array.getElem?_eq_none h1] at hh
    refine ⟨⟨fun s g hs hb => ?_, hok.2⟩, (hother b hlt fun c hc hb => ?_).trans hh⟩
    · rcases hblk s g b hs hb with h | ⟨g0, h1, h2⟩
      · omega
      · exact hok.1 s g0 h1 h2
    · obtain ⟨e3, g0, e4, _⟩ := hold c hc
      exact hok.1 c.id g0 e4 (by rw [e3]; exact hb)
  refine R.change (w' := w') hm ?_ ?_ ?_ ?_ ?_ ?_ rfl
  · intro r g' hg hmen
    rcases look_applyAll_some hn hg with ⟨o, c, h1, e1, e2⟩ | ⟨h1, hl⟩
    · subst e1; subst e2
      cases o with
      | false =>
        obtain ⟨av, hav, hme⟩ := hmen
        exact ((hnew c h1).1.1.2 av hav hme).elim
      | true =>
        obtain ⟨e3, g0, e4, e5⟩ := hold c h1
        exact ⟨by rw [hφm _ _ h1, e3], g0, e4, e5⟩
    · exact ⟨hφn r h1, g', hl, SameKind.refl _⟩
  · intro r g' hg
    rcases look_applyAll_some hn hg with ⟨o, c, h1, e1, e2⟩ | ⟨h1, hl⟩
    · subst e1; subst e2
      rw [hφm o c h1]
      exact hat o c h1
    · rw [hφn r h1]
      refine Reg.at_mono hm (fun b hb => hother b (Reg.at_block (R.rg r g' hl) hb) fun c hc hb2 => ?_) (R.rg r g' hl)
      obtain ⟨e3, g0, e4, _⟩ := hold c hc
      have := R.sep r c.id g' g0 b hl e4 hb (by rw [e3]; exact hb2)
      exact h1 _ hc this.symm
  · intro r r' g g' b h1 h2 h3 h4
    rcases look_applyAll_some hn h1 with ⟨o, c, m1, e1, e2⟩ | ⟨m1, l1⟩ <;> rcases look_applyAll_some hn h2 with ⟨o', c', m2, f1, f2⟩ | ⟨m2, l2⟩
    · subst e1; subst f1
      rw [hφm _ _ m1] at h3
      rw [hφm _ _ m2] at h4
      cases o with
      | false => cases o' with
        | false => exact hsep c c' b m1 m2 h3 h4
        | true =>
          obtain ⟨e3, g0, e4, _⟩ := hold c' m2
          have := (hnew c m1).2 b h3
          have := Reg.at_block (R.rg c'.id g0 e4) (by rw [e3]; exact h4)
          omega
      | true => cases o' with
        | false =>
          obtain ⟨e3, g0, e4, _⟩ := hold c m1
          have := (hnew c' m2).2 b h4
          have := Reg.at_block (R.rg c.id g0 e4) (by rw [e3]; exact h3)
          omega
        | true =>
          obtain ⟨e3, g0, e4, _⟩ := hold c m1
          obtain ⟨f3, g1, f4, _⟩ := hold c' m2
          exact R.sep _ _ _ _ b e4 f4 (by rw [e3]; exact h3) (by rw [f3]; exact h4)
    · subst e1
      rw [hφm _ _ m1] at h3
      rw [hφn _ m2] at h4
      cases o with
      | false =>
        have := (hnew c m1).2 b h3
        have := Reg.at_block (R.rg r' g' l2) h4
        omega
      | true =>
        obtain ⟨e3, g0, e4, _⟩ := hold c m1
        exact R.sep _ _ _ _ b e4 l2 (by rw [e3]; exact h3) h4
    · subst f1
      rw [hφm _ _ m2] at h4
      rw [hφn _ m1] at h3
      cases o' with
      | false =>
        have := (hnew c' m2).2 b h4
        have := Reg.at_block (R.rg r g l1) h3
        omega
      | true =>
        obtain ⟨e3, g0, e4, _⟩ := hold c' m2
        exact R.sep _ _ _ _ b l1 e4 h3 (by rw [e3]; exact h4)
    · rw [hφn _ m1] at h3
      rw [hφn _ m2] at h4
      exact R.sep _ _ _ _ b l1 l2 h3 h4
  · intro r g b h1 h2
    rcases hblk r g b h1 h2 with h | ⟨g0, h3, h4⟩
    · have := R.hB; left; omega
    · exact R.fr r g0 b h3 h4
  · intro r l h1 h2
    obtain ⟨g, hg⟩ := Option.isSome_iff_exists.1 h2
    rcases look_applyAll_some hn hg with ⟨o, c, m1, e1, e2⟩ | ⟨m1, l1⟩
    · subst e1
      cases o with
      | false => exact ((hnew c m1).1.2 l h1).elim
      | true =>
        obtain ⟨e3, g0, e4, _⟩ := hold c m1
        rw [hφm _ _ m1, ← e3]
        exact R.io c.id l h1 (by simp [e4])
    · rw [hφn _ m1]
      exact R.io r l h1 (by simp [l1])
  · refine ⟨hos, htape, hout, hsize, fun k hk hown => ?_⟩
    refine hother k (by have := R.hB; omega) (fun c hc hb => ?_)
    obtain ⟨e3, g0, e4, _⟩ := hold c hc
    rcases R.fr c.id g0 k e4 (by rw [e3]; exact hb) with h7 | h7
    · omega
    · exact hown h7

end Go.Lift
