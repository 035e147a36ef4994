/- A state made plain: what is not kept is forgotten, the regions are numbered anew. -/
import Derived.Test.YtfkedbncidahjaaL18
set_option linter.unusedVariables false
set_option linter.unusedSimpArgs false
namespace Go.Lift
open Go

def rn (m : List (Nat × Nat)) (r : Nat) : Option Nat :=
  match m with
  | [] => none
  | (o, n) :: m => if o = r then some n else rn m r
def SV.ren (m : List (Nat × Nat)) : SV → SV
  | .sl r => match rn m r with
    | some n => .sl n
    | none => .undef
  | .addr r p => match rn m r with
    | some n => .addr n p
    | none => .undef
  | .valn t x => .val (.ro t) x
  | .nilq _ _ => .undef
  | v => v
def AV.ren (m : List (Nat × Nat)) : AV → AV
  | .s v => .s (v.ren m)
  | .tup vs => .tup (vs.map (SV.ren m))
  | .fn f vs => .fn f (vs.map (SV.ren m))
  | .gd _ _ _ _ => .s .undef
def SV.ids : SV → List Nat
  | .sl r => [r]
  | .addr r _ => [r]
  | _ => []
def AV.ids : AV → List Nat
  | .s v => v.ids
  | .tup vs => vs.flatMap SV.ids
  | .fn _ vs => vs.flatMap SV.ids
  | .gd _ _ _ _ => []
/-- The numbers given anew: those of the parameters stay. -/
def mkRen (nio : Nat) (ids : List Nat) : List (Nat × Nat) :=
  ids.foldl (fun m r => if (rn m r).isSome then m else m ++ [(r, m.length)]) ((List.range nio).map fun r => (r, r))
def renRegs (m : List (Nat × Nat)) (rs : Regs) : Regs :=
  match m with
  | [] => []
  | (o, n) :: m => match look rs o with
    | some g => (n, g) :: renRegs m rs
    | none => renRegs m rs
def renTmps (keep : List Tmp) (m : List (Nat × Nat)) : Nat → List AV → List AV
  | _, [] => []
  | i, v :: vs => (if keep.contains i = true then v.ren m else .s .undef) :: renTmps keep m (i + 1) vs
def keepIds (keep : List Tmp) (tm : List AV) : List Nat := keep.flatMap fun t => match tm[t]? with
  | some v => v.ids
  | none => []
def renOK (nio : Nat) (m : List (Nat × Nat)) : Bool :=
  nodupB (m.map (·.1)) && nodupB (m.map (·.2)) && (List.range nio).all (fun r => decide (rn m r = some r)) && m.all (fun p => decide (p.2 < nio + m.length))
def norm (nio : Nat) (keep : List Tmp) (st : St) : Option St :=
  let m := mkRen nio (keepIds keep st.tmps)
  if renOK nio m = true then some { tmps := renTmps keep m 0 st.tmps, regs := renRegs m st.regs, next := nio + m.length } else none

theorem rn_mem {m : List (Nat × Nat)} {r n : Nat} (h : rn m r = some n) : (r, n) ∈ m := by
  induction m with
  | nil => simp [rn] at h
  | cons p m ih =>
    obtain ⟨o, k⟩ := p
    simp only [rn] at h
    split at h
    · rename_i e; cases h; subst e; exact List.mem_cons_self ..
    · exact List.mem_cons_of_mem _ (ih h)
theorem look_ren {m : List (Nat × Nat)} {rs : Regs} {n : Nat} {g : Reg} (h : look (renRegs m rs) n = some g) : ∃ o, (o, n) ∈ m ∧ look rs o = some g := by
  induction m with
  | nil => simp [renRegs, look] at h
  | cons p m ih =>
    obtain ⟨o, k⟩ := p
    simp only [renRegs] at h
    split at h
    · rename_i g' hl
      simp only [look] at h
      split at h
      · rename_i e; subst e; cases h; exact ⟨o, List.mem_cons_self .., hl⟩
      · obtain ⟨o', h1, h2⟩ := ih h; exact ⟨o', List.mem_cons_of_mem _ h1, h2⟩
    · obtain ⟨o', h1, h2⟩ := ih h; exact ⟨o', List.mem_cons_of_mem _ h1, h2⟩
theorem snd_inj {m : List (Nat × Nat)} (h : (m.map (·.2)).Nodup) {a b n : Nat} (ha : (a, n) ∈ m) (hb : (b, n) ∈ m) : a = b := by
  induction m with
  | nil => cases ha
  | cons p m ih =>
    simp only [List.map_cons, List.nodup_cons] at h
    rcases List.mem_cons.1 ha with ha | ha <;> rcases List.mem_cons.1 hb with hb | hb
    · rw [← ha] at hb; cases hb; rfl
    · exact (h.1 (List.mem_map.2 ⟨_, hb, by rw [← ha]⟩)).elim
    · exact (h.1 (List.mem_map.2 ⟨_, ha, by rw [← hb]⟩)).elim
    · exact ih h.2 ha hb
/-- Where a new number's region lies. -/
def backLoc (m : List (Nat × Nat)) (φ : Phi) (n : Nat) : Loc :=
  match m with
  | [] => φ n
  | (o, k) :: m => if k = n then φ o else backLoc m φ n
theorem backLoc_mem {m : List (Nat × Nat)} (h : (m.map (·.2)).Nodup) {φ : Phi} {o n : Nat} (hm : (o, n) ∈ m) : backLoc m φ n = φ o := by
  induction m with
  | nil => cases hm
  | cons p m ih =>
    obtain ⟨o', k⟩ := p
    simp only [backLoc]
    simp only [List.map_cons, List.nodup_cons] at h
    rcases List.mem_cons.1 hm with hm | hm
    · cases hm; rw [if_pos rfl]
    · have : k ≠ n := fun e => h.1 (List.mem_map.2 ⟨_, hm, e.symm⟩)
      rw [if_neg this]
      exact ih h.2 hm

theorem renTmps_get (keep : List Tmp) (m : List (Nat × Nat)) : ∀ (vs : List AV) (k i : Nat) (v : AV), (renTmps keep m k vs)[i]? = some v → ∃ u, vs[i]? = some u ∧ (v = u.ren m ∨ v = .s .undef)
  | [], _, _, _, h => by simp [renTmps] at h
  | u :: vs, k, i, v, h => by
    cases i with
    | zero =>
      simp only [renTmps, List.getElem?_cons_zero, Option.some.injEq] at h
      refine ⟨u, rfl, ?_⟩
      split at h
      · exact .inl h.symm
      · exact .inr h.symm
    | succ i =>
      simp only [renTmps, List.getElem?_cons_succ] at h
      exact renTmps_get keep m vs (k + 1) i v h
theorem renTmps_length (keep : List Tmp) (m : List (Nat × Nat)) : ∀ (vs : List AV) (k : Nat), (renTmps keep m k vs).length = vs.length
  | [], _ => rfl
  | u :: vs, k => by simp [renTmps, renTmps_length keep m vs]

theorem norm_sound {cx : Cx} {φ : Phi} {st st' : St} {a : Act} {w : World} (R : RelF cx φ st a w) {nio : Nat} (hio : ∀ r l, (r, l) ∈ cx.io → r < nio) {keep : List Tmp} (h : norm nio keep st = some st') :
    (∃ φ', RelF cx φ' st' a w) ∧ FreshFrom cx st' st'.next := by
  simp only [norm] at h
  split at h
  · rename_i hok
    cases h
    generalize mkRen nio (keepIds keep st.tmps) = m at *
    simp only [renOK, Bool.and_eq_true, List.all_eq_true, decide_eq_true_eq, List.mem_range] at hok
    obtain ⟨⟨⟨h1, h2⟩, h3⟩, h4⟩ := hok
    have n1 := nodupB_spec h1
    have n2 := nodupB_spec h2
    let φ' : Phi := ⟨backLoc m φ, φ.base⟩
    have hback : ∀ n g, look (renRegs m st.regs) n = some g → ∃ o, (o, n) ∈ m ∧ look st.regs o = some g ∧ φ' n = φ o := by
      intro n g hl
      obtain ⟨o, h5, h6⟩ := look_ren hl
      exact ⟨o, h5, h6, backLoc_mem n2 h5⟩
    have hm : ∀ b o, okOf st.regs φ b → w.heap[b]? = some o → okOf (renRegs m st.regs) φ' b ∧ w.heap[b]? = some o := by
      intro b o hok hh
      refine ⟨⟨fun n g hl hb => ?_, hok.2⟩, hh⟩
      obtain ⟨o', h5, h6, h7⟩ := hback n g hl
      rw [h7] at hb
      exact hok.1 o' g h6 hb
    have hSV : ∀ x v, SVRel st.regs φ (okOf st.regs φ) w x v → SVRel (renRegs m st.regs) φ' (okOf (renRegs m st.regs) φ') w (x.ren m) v := by
      intro x v hx
      cases x with
      | undef => exact hx
      | val t x => exact VRel.mono hm hx
      | nilsl => exact hx
      | nilp => exact hx
      | valn t x => exact VRel.mono hm hx.1
      | nilq e neg => trivial
      | ra t x =>
        obtain ⟨b, o, cs, ty, fz, e1, e2, e3, e4⟩ := hx
        exact ⟨b, o, cs, ty, fz, e1, (hm _ _ e2 e3).1, e3, Ty.rd_mono hm _ _ _ e4⟩
      | sl r =>
        simp only [SV.ren]
        split
        · rename_i n hn
          intro t xs hl
          obtain ⟨o, h5, h6, h7⟩ := hback n _ hl
          have : o = r := snd_inj n2 h5 (rn_mem hn)
          subst this
          rw [h7]
          exact hx t xs h6
        · trivial
      | addr r p =>
        simp only [SV.ren]
        split
        · rename_i n hn
          intro g hl
          obtain ⟨o, h5, h6, h7⟩ := hback n _ hl
          have : o = r := snd_inj n2 h5 (rn_mem hn)
          subst this
          have h8 := hx g h6
          cases g with
          | row t xs =>
            obtain ⟨i, p', b, g1, g2, g3, g4, g5, g6⟩ := h8
            exact ⟨i, p', b, g1, g2, g3, g4, by rw [h7]; exact g5, by rw [h7]; exact g6⟩
          | box t y =>
            obtain ⟨b, g1, g2, g3⟩ := h8
            exact ⟨b, by rw [h7]; exact g1, g2, g3⟩
          | obox t y =>
            obtain ⟨g1, g2, g3⟩ := h8
            exact ⟨g1, by rw [h7]; exact g2, by rw [h7]; exact g3⟩
        · trivial
    have hAll : ∀ (xs : List SV) (vs : List Value), All2 (SVRel st.regs φ (okOf st.regs φ) w) xs vs → All2 (SVRel (renRegs m st.regs) φ' (okOf (renRegs m st.regs) φ') w) (xs.map (SV.ren m)) vs := by
      intro xs vs h
      induction h with
      | nil => exact .nil
      | cons h _ ih => exact .cons (hSV _ _ h) ih
    refine ⟨⟨φ', ⟨by rw [renTmps_length]; exact R.size, R.df, ?_, ?_, ?_, ?_, ?_, R.kp, R.hB, R.bs⟩⟩, ?_⟩
    · intro i v hv
      obtain ⟨u, hu, hcase⟩ := renTmps_get keep m st.tmps 0 i v hv
      rcases hcase with rfl | rfl
      · have hr := R.tm i u hu
        cases u with
        | s x => exact hSV _ _ hr
        | tup xs => obtain ⟨vs, e, ha⟩ := hr; exact ⟨vs, e, hAll _ _ ha⟩
        | fn f xs => obtain ⟨vs, e, ha⟩ := hr; exact ⟨vs, e, hAll _ _ ha⟩
        | gd k b w' x => trivial
      · trivial
    · intro n g hl
      obtain ⟨o, h5, h6, h7⟩ := hback n g hl
      rw [h7]
      exact Reg.at_mono hm (fun _ _ => rfl) (R.rg o g h6)
    · intro n n' g g' b hl hl' hb hb'
      obtain ⟨o, h5, h6, h7⟩ := hback n g hl
      obtain ⟨o', k5, k6, k7⟩ := hback n' g' hl'
      rw [h7] at hb
      rw [k7] at hb'
      have := R.sep o o' g g' b h6 k6 hb hb'
      subst this
      -- one old number has one new one
      have aux : ∀ (l : List (Nat × Nat)), (l.map (·.1)).Nodup → (o, n) ∈ l → (o, n') ∈ l → n = n' := by
        intro l
        induction l with
        | nil => intro _ h; cases h
        | cons p l ih =>
          intro hnd ha hb
          simp only [List.map_cons, List.nodup_cons] at hnd
          rcases List.mem_cons.1 ha with ha | ha <;> rcases List.mem_cons.1 hb with hb | hb
          · rw [← ha] at hb; cases hb; rfl
          · exact (hnd.1 (List.mem_map.2 ⟨_, hb, by rw [← ha]⟩)).elim
          · exact (hnd.1 (List.mem_map.2 ⟨_, ha, by rw [← hb]⟩)).elim
          · exact ih hnd.2 ha hb
      exact aux m n1 h5 k5
    · intro n g b hl hb
      obtain ⟨o, h5, h6, h7⟩ := hback n g hl
      rw [h7] at hb
      exact R.fr o g b h6 hb
    · intro r l hr hs
      obtain ⟨g, hl⟩ := Option.isSome_iff_exists.1 hs
      obtain ⟨o, h5, h6, h7⟩ := hback r g hl
      have hrr := rn_mem (h3 r (hio r l hr))
      have : o = r := snd_inj n2 h5 hrr
      subst this
      rw [h7]
      exact R.io o l hr (by simp [h6])
    · intro k hk
      have hk' : nio + m.length ≤ k := hk
      refine ⟨⟨?_, ?_⟩, fun l hl => ?_⟩
      · cases hl : look (renRegs m st.regs) k with
        | none => rfl
        | some g =>
          obtain ⟨o, h5, _⟩ := look_ren hl
          have := h4 _ h5
          simp only at this
          omega
      · intro av hav hmen
        obtain ⟨i, hi, e⟩ := List.getElem_of_mem hav
        obtain ⟨u, hu, hcase⟩ := renTmps_get keep m st.tmps 0 i av (by rw [List.getElem?_eq_getElem hi, e])
        have hsv : ∀ x : SV, (x.ren m).mentions k → False := by
          intro x hx
          cases x with
          | sl r =>
            simp only [SV.ren] at hx
            split at hx
            · rename_i n hn
              have := h4 _ (rn_mem hn)
              simp only [SV.mentions] at hx this
              omega
            · exact hx
          | addr r p =>
            simp only [SV.ren] at hx
            split at hx
            · rename_i n hn
              have := h4 _ (rn_mem hn)
              simp only [SV.mentions] at hx this
              omega
            · exact hx
          | _ => exact hx
        rcases hcase with rfl | rfl
        · cases u with
          | s x => exact hsv x hmen
          | tup xs =>
            obtain ⟨v, hv, hm⟩ := hmen
            obtain ⟨x, _, rfl⟩ := List.mem_map.1 hv
            exact hsv x hm
          | fn f xs =>
            obtain ⟨v, hv, hm⟩ := hmen
            obtain ⟨x, _, rfl⟩ := List.mem_map.1 hv
            exact hsv x hm
          | gd k b w' x => exact hmen
        · exact hmen
      · have := hio k l hl
        omega
  · cases h

theorem set_same (tmps : Array Value) (t : Nat) (hlt : t < tmps.size) : tmps.setIfInBounds t (tmps.getD t undef) = tmps := by
  apply Array.ext_getElem?
  intro i
  by_cases h : t = i
  · subst h
    simp [hlt]
  · rw [Array.getElem?_setIfInBounds_ne h]

/-! ### a nil slice that is to be grown -/
def ownNil : List (Tmp × Ty) → St → St
  | [], st => st
  | (t, τ) :: l, st => match st.tmps[t]? with
    | some (.s .nilsl) => ownNil l { tmps := st.tmps.set t (.s (.sl st.next)), regs := upd st.regs st.next (some (.row τ [])), next := st.next + 1 }
    | _ => ownNil l st
theorem ownNil_sound {cx : Cx} {a : Act} {w : World} : ∀ (l : List (Tmp × Ty)) {φ : Phi} {st : St}, RelF cx φ st a w → FreshFrom cx st st.next → (∃ φ', RelF cx φ' (ownNil l st) a w) ∧ FreshFrom cx (ownNil l st) (ownNil l st).next
  | [], φ, st, R, hF => ⟨⟨φ, R⟩, hF⟩
  | (t, τ) :: l, φ, st, R, hF => by
    simp only [ownNil]
    split
    · rename_i ht
      have hv := R.tm t _ ht
      have hV : a.tmps.getD t undef = .slice none 0 0 := hv
      have hf := hF st.next (Nat.le_refl _)
      have R1 := R.step (w' := w) none st.next (.row τ []) ⟨none, 0, 0⟩ (fun b hb => by cases hb) (fun b _ _ => rfl) (.inl hf.1) (fun l0 hl => (hf.2 l0 hl).elim)
        ⟨Nat.le_refl _, rfl⟩ rfl rfl rfl (Nat.le_refl _)
      have R2 := R1.put (dst := some t) (av := .s (.sl st.next)) (v := a.tmps.getD t undef) (by
        intro t' xs' hl
        simp only [without, look_upd, if_true] at hl
        cases hl
        rw [hV]
        simp [setLoc, Loc.addr])
      have ha : a.put (some t) (a.tmps.getD t undef) = a := by
        have hlt : t < a.tmps.size := by rw [R.size]; exact (List.getElem?_eq_some_iff.1 ht).1
        cases a with
        | mk tmps defers =>
          simp only [Act.put]
          congr 1
          exact set_same tmps t hlt
      rw [ha] at R2
      refine ownNil_sound l (φ := setLoc φ st.next ⟨none, 0, 0⟩) ⟨R2.size, R2.df, R2.tm, R2.rg, R2.sep, R2.fr, R2.io, R2.kp, R2.hB, R2.bs⟩ ?_
      intro m hm
      have hm' : st.next + 1 ≤ m := hm
      obtain ⟨⟨h1, h2⟩, h3⟩ := hF m (by omega)
      refine ⟨⟨?_, ?_⟩, h3⟩
      · show look (upd st.regs st.next (some (.row τ []))) m = none
        rw [look_upd, if_neg (by omega)]; exact h1
      · intro x hx hmen
        have hx' : x ∈ st.tmps.set t (.s (.sl st.next)) := hx
        rcases List.mem_or_eq_of_mem_set hx' with hx' | hx'
        · exact h2 x hx' hmen
        · subst hx'
          have : st.next = m := hmen
          omega
    · exact ownNil_sound l R hF

end Go.Lift
