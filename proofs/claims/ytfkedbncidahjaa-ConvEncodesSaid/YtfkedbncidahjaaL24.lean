/- One operation seen with its own regions alone: what stands beside is kept. -/
import Derived.Test.YtfkedbncidahjaaL19
set_option linter.unusedVariables false
set_option linter.unusedSimpArgs false
namespace Go.Lift
open Go

def SV.allIds : SV → List Nat
  | .sl r => [r]
  | .addr r _ => [r]
  | _ => []
def AV.allIds : AV → List Nat
  | .s v => v.allIds
  | .tup vs => vs.flatMap SV.allIds
  | .fn _ vs => vs.flatMap SV.allIds
  | .gd _ _ _ v => v.allIds
theorem SV.allIds_spec {v : SV} {n : Nat} (h : v.mentions n) : n ∈ v.allIds := by
  cases v <;> simp_all [SV.mentions, SV.allIds]
theorem AV.allIds_spec {v : AV} {n : Nat} (h : v.mentions n) : n ∈ v.allIds := by
  cases v with
  | s v => exact SV.allIds_spec h
  | tup vs => obtain ⟨v, h1, h2⟩ := h; exact List.mem_flatMap.2 ⟨v, h1, SV.allIds_spec h2⟩
  | fn f vs => obtain ⟨v, h1, h2⟩ := h; exact List.mem_flatMap.2 ⟨v, h1, SV.allIds_spec h2⟩
  | gd k b w v => exact SV.allIds_spec h

def restr (ids : List Nat) (rs : Regs) : Regs := ids.filterMap fun r => (look rs r).map fun g => (r, g)
theorem look_restr (ids : List Nat) (rs : Regs) (s : Nat) : look (restr ids rs) s = if s ∈ ids then look rs s else none := by
  induction ids with
  | nil => simp [restr, look]
  | cons r ids ih =>
    have e : restr (r :: ids) rs = match look rs r with
      | some g => (r, g) :: restr ids rs
      | none => restr ids rs := by
      unfold restr
      simp only [List.filterMap_cons]
      cases look rs r <;> rfl
    rw [e]
    cases hl : look rs r with
    | none =>
      simp only [ih, List.mem_cons]
      by_cases h : s = r
      · subst h; simp [hl]
      · simp [h]
    | some g =>
      simp only [look, ih, List.mem_cons]
      by_cases h : r = s
      · subst h; simp [hl]
      · simp [h, Ne.symm h]

/-- What an effect touches. -/
def EffI.touch : EffI → List Nat
  | .set (some o) n _ => [o, n]
  | .set none n _ => [n]
  | .del r => [r]
def touch (e : Eff) : List Nat := e.flatMap EffI.touch
theorem look_effI_not {i : EffI} {rs : Regs} {s : Nat} (h : s ∉ i.touch) : look (i.app rs) s = look rs s := by
  cases i with
  | set old n g =>
    cases old with
    | none =>
      simp only [EffI.touch, List.mem_singleton] at h
      simp only [EffI.app, without, look_upd]
      rw [if_neg (fun e => h e.symm)]
    | some o =>
      simp only [EffI.touch, List.mem_cons, List.not_mem_nil, or_false, not_or] at h
      simp only [EffI.app, look_upd, look_without, Option.some.injEq]
      rw [if_neg (fun e => h.2 e.symm), if_neg (fun e => h.1 e.symm)]
  | del r =>
    simp only [EffI.touch, List.mem_singleton] at h
    simp only [EffI.app, look_drop]
    rw [if_neg (fun e => h e.symm)]
theorem look_app_not : ∀ {e : Eff} {rs : Regs} {s : Nat}, s ∉ touch e → look (e.app rs) s = look rs s
  | [], _, _, _ => rfl
  | i :: e, rs, s, h => by
    simp only [touch, List.flatMap_cons, List.mem_append, not_or] at h
    simp only [Eff.app]
    rw [look_app_not (e := e) h.2, look_effI_not h.1]
theorem look_effI_congr {i : EffI} {rs rs' : Regs} {s : Nat} (h : look rs s = look rs' s) : look (i.app rs) s = look (i.app rs') s := by
  cases i with
  | set old n g => simp only [EffI.app, look_upd, look_without, h]
  | del r => simp only [EffI.app, look_drop, h]
theorem look_app_congr : ∀ {e : Eff} {rs rs' : Regs} {s : Nat}, look rs s = look rs' s → look (e.app rs) s = look (e.app rs') s
  | [], _, _, _, h => h
  | i :: e, rs, rs', s, h => by
    simp only [Eff.app]
    exact look_app_congr (e := e) (look_effI_congr h)

def cxIn (cx : Cx) (φ : Phi) (st : St) (ids : List Nat) (w : World) : Cx :=
  { P := cx.P, B := w.heap.size, w0 := w, io := ids.filterMap fun r => (look st.regs r).map fun _ => (r, φ r), ro := okOf st.regs φ }
theorem cxIn_io {cx : Cx} {φ : Phi} {st : St} {ids : List Nat} {w : World} {r : Nat} {l : Loc} : (r, l) ∈ (cxIn cx φ st ids w).io ↔ r ∈ ids ∧ (∃ g, look st.regs r = some g) ∧ l = φ r := by
  simp only [cxIn, List.mem_filterMap, Option.map_eq_some_iff, Prod.mk.injEq]
  constructor
  · rintro ⟨r', h1, g, h2, rfl, rfl⟩; exact ⟨h1, ⟨g, h2⟩, rfl⟩
  · rintro ⟨h1, ⟨g, h2⟩, rfl⟩; exact ⟨r, h1, g, h2, rfl, rfl⟩
theorem cxIn_own {cx : Cx} {φ : Phi} {st : St} {ids : List Nat} {w : World} {b : Nat} : (cxIn cx φ st ids w).own b ↔ ∃ r g, r ∈ ids ∧ look st.regs r = some g ∧ (φ r).blk = some b := by
  unfold Cx.own
  constructor
  · rintro ⟨r, l, h1, h2⟩
    obtain ⟨h3, ⟨g, h4⟩, rfl⟩ := cxIn_io.1 h1
    exact ⟨r, g, h3, h4, h2⟩
  · rintro ⟨r, g, h1, h2, h3⟩
    exact ⟨r, φ r, cxIn_io.2 ⟨h1, ⟨g, h2⟩, rfl⟩, h3⟩

theorem RelF.into {cx : Cx} {φ : Phi} {st : St} {a : Act} {w : World} (R : RelF cx φ st a w) (ids : List Nat) :
    RelF (cxIn cx φ st ids w) ⟨φ.loc, fun b => w.heap.size ≤ b ∨ (cxIn cx φ st ids w).own b ∨ okOf st.regs φ b⟩ { st with regs := restr ids st.regs } a w := by
  have hlk : ∀ s g, look (restr ids st.regs) s = some g → s ∈ ids ∧ look st.regs s = some g := by
    intro s g h
    rw [look_restr] at h
    split at h
    · rename_i hm; exact ⟨hm, h⟩
    · cases h
  have hm : ∀ b o, okOf st.regs φ b → w.heap[b]? = some o → okOf (restr ids st.regs) ⟨φ.loc, fun b => w.heap.size ≤ b ∨ (cxIn cx φ st ids w).own b ∨ okOf st.regs φ b⟩ b ∧ w.heap[b]? = some o :=
    fun b o h1 h2 => ⟨⟨fun r g hr => h1.1 r g (hlk r g hr).2, .inr (.inr h1)⟩, h2⟩
  refine ⟨R.size, R.df, ?_, ?_, ?_, ?_, ?_, Kept.refl _ _ _, Nat.le_refl _, fun b => Iff.rfl⟩
  · intro i av h
    exact AVRel.mono hm (fun r _ g' hg => ⟨rfl, g', (hlk r g' hg).2, SameKind.refl _⟩) (R.tm i av h)
  · intro r g h
    exact Reg.at_mono hm (fun _ _ => rfl) (R.rg r g (hlk r g h).2)
  · intro r r' g g' b h1 h2 h3 h4
    exact R.sep r r' g g' b (hlk _ _ h1).2 (hlk _ _ h2).2 h3 h4
  · intro r g b h1 h2
    exact .inr (cxIn_own.2 ⟨r, g, (hlk _ _ h1).1, (hlk _ _ h1).2, h2⟩)
  · intro r l h1 _
    exact (cxIn_io.1 h1).2.2.symm

theorem FreshN.into {cx : Cx} {φ : Phi} {st : St} {w : World} {n : Nat} (h : FreshN cx st n) (ids : List Nat) : FreshN (cxIn cx φ st ids w) { st with regs := restr ids st.regs } n := by
  refine ⟨⟨?_, h.1.2⟩, ?_⟩
  · show look (restr ids st.regs) n = none
    rw [look_restr, h.1.1]; split <;> rfl
  · intro l hl
    obtain ⟨_, ⟨g, hg⟩, _⟩ := cxIn_io.1 hl
    rw [h.1.1] at hg; cases hg

theorem All2.both {α β : Type} {R S : α → β → Prop} {as : List α} {bs : List β} (h : All2 R as bs) (k : All2 S as bs) : All2 (fun a b => R a b ∧ S a b) as bs := by
  induction h with
  | nil => exact .nil
  | cons h t ih => cases k with
    | cons h2 t2 => exact .cons ⟨h, h2⟩ (ih t2)

theorem RelF.outof {cx : Cx} {φ φ' : Phi} {st : St} {a : Act} {w w' : World} (R : RelF cx φ st a w) {ids : List Nat} {e : Eff} {n : Nat} (hf : ∀ k, k < 8 → FreshN cx st (n + k))
    (R' : RelF (cxIn cx φ st ids w) φ' { st with regs := e.app (restr ids st.regs) } a w')
    (ht : ∀ r ∈ touch e, (r ∈ ids ∧ (look st.regs r).isSome = true) ∨ (n ≤ r ∧ r < n + 8)) :
    ∃ φ'', RelF cx φ'' { st with regs := e.app st.regs } a w' ∧ ∀ av V, (∀ r ∈ av.allIds, r ∈ ids ∨ (n ≤ r ∧ r < n + 8)) →
      AVRel (e.app (restr ids st.regs)) φ' (okOf (e.app (restr ids st.regs)) φ') w' av V → AVRel (e.app st.regs) φ'' (okOf (e.app st.regs) φ'') w' av V := by
  classical
  let A : Nat → Prop := fun r => (r ∈ ids ∧ (look st.regs r).isSome = true) ∨ (n ≤ r ∧ r < n + 8)
  let φ'' : Phi := ⟨fun r => if A r then φ' r else φ r, φ.base⟩
  have hfr : ∀ r, n ≤ r → r < n + 8 → FreshN cx st r := fun r h1 h2 => by
    have := hf (r - n) (by omega)
    rwa [show n + (r - n) = r from by omega] at this
  have lA : ∀ r, A r → look (e.app st.regs) r = look (e.app (restr ids st.regs)) r := by
    intro r hr
    refine look_app_congr ?_
    rw [look_restr]
    rcases hr with ⟨h1, _⟩ | ⟨h1, h2⟩
    · rw [if_pos h1]
    · rw [(hfr r h1 h2).1.1]; split <;> rfl
  have lN : ∀ r, ¬ A r → look (e.app st.regs) r = look st.regs r := fun r hr => look_app_not fun h => hr (ht r h)
  have lN' : ∀ r, ¬ A r → look (e.app (restr ids st.regs)) r = none := by
    intro r hr
    rw [look_app_not fun h => hr (ht r h), look_restr]
    split
    · rename_i hm
      cases hl : look st.regs r with
      | none => rfl
      | some g => exact (hr (.inl ⟨hm, by rw [hl]; rfl⟩)).elim
    · rfl
  have φA : ∀ r, A r → φ'' r = φ' r := fun r hr => by show (if A r then φ' r else φ r) = φ' r; rw [if_pos hr]
  have φN : ∀ r, ¬ A r → φ'' r = φ r := fun r hr => by show (if A r then φ' r else φ r) = φ r; rw [if_neg hr]
  -- own blocks within
  have ownLive : ∀ b, (cxIn cx φ st ids w).own b → ∃ r g, A r ∧ look st.regs r = some g ∧ (φ r).blk = some b := by
    intro b hb
    obtain ⟨r, g, h1, h2, h3⟩ := cxIn_own.1 hb
    exact ⟨r, g, .inl ⟨h1, by rw [h2]; rfl⟩, h2, h3⟩
  have aLive : ∀ r, A r → (∃ g, look st.regs r = some g) → r ∈ ids := by
    rintro r (⟨h1, _⟩ | ⟨h1, h2⟩) ⟨g, hg⟩
    · exact h1
    · rw [(hfr r h1 h2).1.1] at hg; cases hg
  -- old readable blocks stay
  have hm : ∀ b o, okOf st.regs φ b → w.heap[b]? = some o → okOf (e.app st.regs) φ'' b ∧ w'.heap[b]? = some o := by
    intro b o hok hh
    have hlt : b < w.heap.size := by
      rcases Nat.lt_or_ge b w.heap.size with h1 | h1
      · exact h1
      · simp [Array.getElem?_eq_none h1] at hh
    have hno : ¬ (cxIn cx φ st ids w).own b := fun h => by
      obtain ⟨r, g, _, h2, h3⟩ := ownLive b h
      exact hok.1 r g h2 h3
    refine ⟨⟨fun r g hg hb => ?_, hok.2⟩, (R'.kp.block b hlt hno).trans hh⟩
    by_cases hA : A r
    · rw [φA r hA] at hb
      rw [lA r hA] at hg
      rcases R'.fr r g b hg hb with h1 | h1
      · have h1' : w.heap.size ≤ b := h1
        omega
      · exact hno h1
    · rw [φN r hA] at hb
      rw [lN r hA] at hg
      exact hok.1 r g hg hb
  -- new readable blocks too
  have hm' : ∀ b o, okOf (e.app (restr ids st.regs)) φ' b → w'.heap[b]? = some o → okOf (e.app st.regs) φ'' b ∧ w'.heap[b]? = some o := by
    intro b o hok hh
    refine ⟨⟨fun r g hg hb => ?_, ?_⟩, hh⟩
    · by_cases hA : A r
      · rw [φA r hA] at hb
        rw [lA r hA] at hg
        exact hok.1 r g hg hb
      · rw [φN r hA] at hb
        rw [lN r hA] at hg
        rcases (R'.bs b).1 hok.2 with h1 | h1 | h1
        · have := Reg.at_block (R.rg r g hg) hb
          have h1' : w.heap.size ≤ b := h1
          omega
        · obtain ⟨r2, g2, h2, h3, h4⟩ := ownLive b h1
          have := R.sep r r2 g g2 b hg h3 hb h4
          subst this
          exact hA h2
        · exact h1.1 r g hg hb
    · show φ.base b
      rcases (R'.bs b).1 hok.2 with h1 | h1 | h1
      · exact (R.bs b).2 (.inl (Nat.le_trans R.hB h1))
      · obtain ⟨r2, g2, h2, h3, h4⟩ := ownLive b h1
        exact (R.bs b).2 ((R.fr r2 g2 b h3 h4).elim .inl fun h => .inr (.inl h))
      · exact h1.2
  -- a simple value that told on both sides
  have hsv : ∀ x V, (∀ r, x.mentions r → A r → n ≤ r → False ∨ True) → SVRel st.regs φ (okOf st.regs φ) w x V → SVRel (e.app (restr ids st.regs)) φ' (okOf (e.app (restr ids st.regs)) φ') w' x V → SVRel (e.app st.regs) φ'' (okOf (e.app st.regs) φ'') w' x V := by
    intro x V _ h1 h2
    cases x with
    | undef => trivial
    | val t x => exact VRel.mono hm h1
    | nilsl => exact h1
    | nilp => exact h1
    | valn t x => exact ⟨VRel.mono hm h1.1, h1.2⟩
    | nilq e neg => exact h1
    | ra t x =>
      obtain ⟨b, o, cs, ty, fz, e1, e2, e3, e4⟩ := h1
      exact ⟨b, o, cs, ty, fz, e1, (hm _ _ e2 e3).1, (hm _ _ e2 e3).2, Ty.rd_mono hm _ _ _ e4⟩
    | sl r =>
      intro t xs hg
      by_cases hA : A r
      · rw [φA r hA]; rw [lA r hA] at hg; exact h2 t xs hg
      · rw [φN r hA]; rw [lN r hA] at hg; exact h1 t xs hg
    | addr r p =>
      intro g hg
      by_cases hA : A r
      · rw [lA r hA] at hg
        have := h2 g hg
        unfold addrRel at this ⊢
        rw [φA r hA]; exact this
      · rw [lN r hA] at hg
        have := h1 g hg
        unfold addrRel at this ⊢
        rw [φN r hA]; exact this
  refine ⟨φ'', ⟨R.size, R.df, ?_, ?_, ?_, ?_, ?_, ?_, ?_, R.bs⟩, ?_⟩
  · intro i av h
    have h1 := R.tm i av h
    have h2 := R'.tm i av h
    cases av with
    | s x => exact hsv x _ (fun _ _ _ _ => .inr trivial) h1 h2
    | tup xs =>
      obtain ⟨vs, e1, k1⟩ := h1
      obtain ⟨vs', e2, k2⟩ := h2
      rw [e1] at e2
      cases e2
      exact ⟨vs, e1, (k1.both k2).imp fun x V _ hx => hsv x V (fun _ _ _ _ => .inr trivial) hx.1 hx.2⟩
    | fn f xs =>
      obtain ⟨vs, e1, k1⟩ := h1
      obtain ⟨vs', e2, k2⟩ := h2
      rw [e1] at e2
      cases e2
      exact ⟨vs, e1, (k1.both k2).imp fun x V _ hx => hsv x V (fun _ _ _ _ => .inr trivial) hx.1 hx.2⟩
    | gd k b want x => exact ⟨fun hb => hsv x _ (fun _ _ _ _ => .inr trivial) (h1.1 hb) (h2.1 hb), h1.2⟩
  · intro r g hg
    by_cases hA : A r
    · have hg' : look (e.app st.regs) r = some g := hg
      rw [lA r hA] at hg'
      rw [φA r hA]
      exact Reg.at_mono hm' (fun _ _ => rfl) (R'.rg r g hg')
    · have hg' : look (e.app st.regs) r = some g := hg
      rw [lN r hA] at hg'
      rw [φN r hA]
      refine Reg.at_mono hm (fun b hb => ?_) (R.rg r g hg')
      refine R'.kp.block b (Reg.at_block (R.rg r g hg') hb) fun ho => ?_
      obtain ⟨r2, g2, h2, h3, h4⟩ := ownLive b ho
      have := R.sep r r2 g g2 b hg' h3 hb h4
      subst this
      exact hA h2
  · intro r r' g g' b h1 h2 h3 h4
    have h1' : look (e.app st.regs) r = some g := h1
    have h2' : look (e.app st.regs) r' = some g' := h2
    have mixed : ∀ r r' g g', A r → ¬ A r' → look (e.app st.regs) r = some g → look (e.app st.regs) r' = some g' → (φ'' r).blk = some b → (φ'' r').blk = some b → False := by
      intro r r' g g' hA hN k1 k2 k3 k4
      rw [lA r hA] at k1
      rw [lN r' hN] at k2
      rw [φA r hA] at k3
      rw [φN r' hN] at k4
      have hb := Reg.at_block (R.rg r' g' k2) k4
      rcases R'.fr r g b k1 k3 with h5 | h5
      · have h5' : w.heap.size ≤ b := h5
        omega
      · obtain ⟨r2, g2, h6, h7, h8⟩ := ownLive b h5
        have := R.sep r' r2 g' g2 b k2 h7 k4 h8
        subst this
        exact hN h6
    by_cases hA : A r
    · by_cases hA' : A r'
      · rw [lA r hA] at h1'
        rw [lA r' hA'] at h2'
        rw [φA r hA] at h3
        rw [φA r' hA'] at h4
        exact R'.sep r r' g g' b h1' h2' h3 h4
      · exact (mixed r r' g g' hA hA' h1' h2' h3 h4).elim
    · by_cases hA' : A r'
      · exact (mixed r' r g' g hA' hA h2' h1' h4 h3).elim
      · rw [lN r hA] at h1'
        rw [lN r' hA'] at h2'
        rw [φN r hA] at h3
        rw [φN r' hA'] at h4
        exact R.sep r r' g g' b h1' h2' h3 h4
  · intro r g b h1 h2
    have h1' : look (e.app st.regs) r = some g := h1
    by_cases hA : A r
    · rw [lA r hA] at h1'
      rw [φA r hA] at h2
      rcases R'.fr r g b h1' h2 with h5 | h5
      · exact .inl (Nat.le_trans R.hB h5)
      · obtain ⟨r2, g2, h6, h7, h8⟩ := ownLive b h5
        exact R.fr r2 g2 b h7 h8
    · rw [lN r hA] at h1'
      rw [φN r hA] at h2
      exact R.fr r g b h1' h2
  · intro r l h1 h2
    have h2' : (look (e.app st.regs) r).isSome = true := h2
    by_cases hA : A r
    · rw [φA r hA]
      rw [lA r hA] at h2'
      rcases hA with ⟨h3, h4⟩ | ⟨h3, h4⟩
      · obtain ⟨g, hg⟩ := Option.isSome_iff_exists.1 h4
        rw [R'.io r (φ r) (cxIn_io.2 ⟨h3, ⟨g, hg⟩, rfl⟩) h2']
        exact R.io r l h1 h4
      · exact ((hfr r h3 h4).2 l h1).elim
    · rw [φN r hA]
      rw [lN r hA] at h2'
      exact R.io r l h1 h2'
  · have hk := R'.kp
    refine ⟨hk.os.trans R.kp.os, hk.tape.trans R.kp.tape, hk.output.trans R.kp.output, Nat.le_trans R.kp.size hk.size, fun k h1 h2 => ?_⟩
    refine (hk.block k (Nat.lt_of_lt_of_le h1 R.hB) fun ho => ?_).trans (R.kp.block k h1 h2)
    obtain ⟨r2, g2, _, h7, h8⟩ := ownLive k ho
    rcases R.fr r2 g2 k h7 h8 with h9 | h9
    · omega
    · exact h2 h9
  · exact Nat.le_trans R.hB R'.kp.size
  · intro av V hids hav
    refine AVRel.mono hm' (fun r hr g' hg => ?_) hav
    have hor := hids r (AV.allIds_spec hr)
    by_cases hA : A r
    · exact ⟨φA r hA, g', by rw [← lA r hA]; exact hg, SameKind.refl _⟩
    · exfalso
      rcases hor with h1 | h1
      · rw [lN r hA] at hg
        exact hA (.inl ⟨h1, by rw [hg]; rfl⟩)
      · exact hA (.inr h1)

end Go.Lift
