/- What the machine's loads, stores and makers do to a block that is known whole. -/
import Derived.Test.YtfkedbncidahjaaL3
set_option linter.unusedVariables false
set_option linter.unusedSimpArgs false
namespace Go.Lift
open Go

structure Wrote (w w' : World) (b : Nat) (o : Obj) : Prop where
  at_ : w'.heap[b]? = some o
  other : ∀ k, k ≠ b → w'.heap[k]? = w.heap[k]?
  size : w'.heap.size = w.heap.size
  os : w'.os = w.os
  tape : w'.tape = w.tape
  output : w'.output = w.output
theorem Wrote.trans {w w' w'' : World} {b : Nat} {o o' : Obj} (h : Wrote w w' b o) (k : Wrote w' w'' b o') : Wrote w w'' b o' :=
  ⟨k.at_, fun i hi => (k.other i hi).trans (h.other i hi), k.size.trans h.size, k.os.trans h.os, k.tape.trans h.tape, k.output.trans h.output⟩
theorem Wrote.self {w : World} {b : Nat} {o : Obj} (h : w.heap[b]? = some o) : Wrote w w b o := ⟨h, fun _ _ => rfl, rfl, rfl, rfl, rfl⟩

theorem add_mk (b o i : Nat) : (⟨b, o, none⟩ : Addr).add i = ⟨b, o + i, none⟩ := by unfold Addr.add; split <;> simp_all

theorem run_store_cell {P : Program} {w : World} {b o : Nat} {cs : Array Value} {ty : TypeId} {fz : Nat × Nat} (v : Value) (hh : w.heap[b]? = some (.cells cs ty fz))
    (hf : Thawed fz cs.size) (ho : o < cs.size) (hv : v.oneCell' = true) :
    ∃ w', (store ⟨b, o, none⟩ v).run P w = .ok () w' ∧ Wrote w w' b (.cells (cs.setIfInBounds o v) ty fz) := by
  have hc : w.cell? ⟨b, o, none⟩ = some cs[o] := by simp [World.cell?, hh, ho]
  have hz : w.frozen? ⟨b, o, none⟩ = false := by
    have := hf o ho
    simp only [World.frozen?, hh]
    exact this
  refine ⟨w.setCell ⟨b, o, none⟩ v, ?_, ?_⟩
  · rw [run_store P w _ v _ hv, hc]; simp [hz]
  · have hlt : b < w.heap.size := (Array.getElem?_eq_some_iff.1 hh).1
    have hv : w.heap[b] = .cells cs ty fz := (Array.getElem?_eq_some_iff.1 hh).2
    refine ⟨?_, ?_, by simp [World.setCell], rfl, rfl, rfl⟩
    · simp only [World.setCell, Array.getElem?_modify]
      simp [hlt, hv]
    · intro k hk
      exact RowKit.Below.heap_setCell _ _ _ _ hk

def writeAt (cs : Array Value) (o : Nat) : List Value → Array Value
  | [] => cs
  | v :: r => writeAt (cs.setIfInBounds o v) (o + 1) r
theorem size_writeAt : ∀ (vs : List Value) (cs : Array Value) (o : Nat), (writeAt cs o vs).size = cs.size
  | [], _, _ => rfl
  | v :: r, cs, o => by simp [writeAt, size_writeAt r]
theorem get_writeAt : ∀ (vs : List Value) (cs : Array Value) (o j : Nat), o + vs.length ≤ cs.size →
    (writeAt cs o vs)[j]? = if o ≤ j ∧ j < o + vs.length then vs[j - o]? else cs[j]?
  | [], cs, o, j, _ => by
    have : ¬ (o ≤ j ∧ j < o + 0) := by omega
    simp only [writeAt, List.length_nil]; rw [if_neg this]
  | v :: r, cs, o, j, h => by
    simp only [writeAt]
    simp only [List.length_cons] at h
    rw [get_writeAt r _ _ _ (by simp; omega)]
    simp only [List.length_cons]
    by_cases h1 : j = o
    · subst h1
      rw [if_neg (by omega), if_pos (by omega)]
      have hj : j < cs.size := by omega
      simp [hj]
    · by_cases h2 : o + 1 ≤ j ∧ j < o + 1 + r.length
      · rw [if_pos h2, if_pos (by omega)]
        rw [show j - o = (j - (o + 1)) + 1 from by omega, List.getElem?_cons_succ]
      · rw [if_neg h2, if_neg (by omega), Array.getElem?_setIfInBounds_ne (by omega)]

theorem run_storeCells_wrote {P : Program} {b o0 : Nat} {ty : TypeId} {fz : Nat × Nat} : ∀ (vs : List Value) (i : Nat) (cs : Array Value) (w : World),
    w.heap[b]? = some (.cells cs ty fz) → Thawed fz cs.size → o0 + i + vs.length ≤ cs.size → (∀ v ∈ vs, v.oneCell' = true) →
    ∃ w', (storeCells ⟨b, o0, none⟩ vs i).run P w = .ok () w' ∧ Wrote w w' b (.cells (writeAt cs (o0 + i) vs) ty fz)
  | [], i, cs, w, hh, _, _, _ => ⟨w, rfl, Wrote.self hh⟩
  | v :: r, i, cs, w, hh, hf, hl, h1 => by
    simp only [List.length_cons] at hl
    obtain ⟨w1, e1, k1⟩ := run_store_cell (P := P) (o := o0 + i) v hh hf (by omega) (h1 v (by simp))
    obtain ⟨w2, e2, k2⟩ := run_storeCells_wrote (P := P) (o0 := o0) r (i + 1) _ w1 k1.at_ (by simpa using hf) (by simp; omega) (fun x hx => h1 x (by simp [hx]))
    refine ⟨w2, ?_, ?_⟩
    · simp only [storeCells, Sem.run_bind, add_mk, e1, Result.andThen_ok, e2]
    · simp only [writeAt]
      rw [← Nat.add_assoc] at k2
      exact k1.trans k2

theorem Ty.rd_cell {ok : Nat → Prop} {w : World} : ∀ (t : Ty) (x : t.den) (c : Nat → Option Value), t.rd ok w x c → ∀ j, j < t.sz → ∃ v, c j = some v ∧ v.oneCell' = true := by
  intro t
  induction t with
  | int k => intro x c h j hj; simp [Ty.sz] at hj; subst hj; exact ⟨_, h, rfl⟩
  | bool => intro x c h j hj; simp [Ty.sz] at hj; subst hj; exact ⟨_, h, rfl⟩
  | str => intro x c h j hj; simp [Ty.sz] at hj; subst hj; exact ⟨_, h, rfl⟩
  | unit => intro x c h j hj; simp [Ty.sz] at hj
  | ro t ih => intro x c h j hj; simp [Ty.sz] at hj; subst hj; obtain ⟨a, cap, h0, _⟩ := h; exact ⟨_, h0, rfl⟩
  | pair a b iha ihb =>
    intro x c h j hj
    simp only [Ty.sz] at hj
    by_cases hja : j < a.sz
    · exact iha _ _ h.1 j hja
    · obtain ⟨v, hv, h1⟩ := ihb _ _ h.2 (j - a.sz) (by omega)
      have hv' : c (a.sz + (j - a.sz)) = some v := hv
      rw [show a.sz + (j - a.sz) = j from by omega] at hv'
      exact ⟨v, hv', h1⟩
  | arr n t ih =>
    intro x c h j hj
    simp only [Ty.sz] at hj
    have hs : 0 < t.sz := by
      rcases Nat.eq_zero_or_pos t.sz with h0 | h0
      · rw [h0] at hj; simp at hj
      · exact h0
    have hn := h.1
    have hd : j / t.sz < n := Nat.div_lt_of_lt_mul (by rw [Nat.mul_comm]; exact hj)
    obtain ⟨v, hv, h1⟩ := ih _ _ (h.2 (j / t.sz) (by omega)) (j % t.sz) (Nat.mod_lt _ hs)
    have hv' : c (j / t.sz * t.sz + j % t.sz) = some v := hv
    rw [Nat.mul_comm, Nat.div_add_mod] at hv'
    exact ⟨v, hv', h1⟩

/-! ### types as the program has them -/

def sizeT (P : Program) (t : TypeId) : Option Nat := (P.info? t).map (·.size)
def bytesT (P : Program) (t : TypeId) : Option Nat := (P.info? t).map (·.bytes)
def aggT (P : Program) (t : TypeId) : Option Bool :=
  match P.underlying t with
  | some (.struct _) => some true
  | some (.array _ _) => some true
  | some _ => some false
  | none => none

theorem run_sizeOf {P : Program} {t : TypeId} {n : Nat} (h : sizeT P t = some n) (w : World) : (sizeOf t).run P w = .ok n w := by
  unfold sizeT at h
  cases hi : P.info? t with
  | none => simp [hi] at h
  | some i => simp [hi] at h; simp [sizeOf, typeInfo, hi, h]
theorem run_isAgg {P : Program} {t : TypeId} {b : Bool} (h : aggT P t = some b) (w : World) : (isAgg t).run P w = .ok b w := by
  unfold aggT at h
  cases hu : P.underlying t with
  | none => simp [hu] at h
  | some d => simp only [hu] at h; cases d <;> simp at h <;> subst h <;> simp [isAgg, run_underlying hu]

/-- Does a type of the program have the shape of a type here? -/
def fits (P : Program) (t : TypeId) (u : Ty) : Bool := sizeT P t == some u.sz && aggT P t == some u.agg
theorem fits_size {P : Program} {t : TypeId} {u : Ty} (h : fits P t u = true) : sizeT P t = some u.sz := by simp [fits] at h; exact h.1
theorem fits_agg {P : Program} {t : TypeId} {u : Ty} (h : fits P t u = true) : aggT P t = some u.agg := by simp [fits] at h; exact h.2

theorem Ty.sz_one {t : Ty} (h : t.agg = false) : t.sz = 1 := by cases t <;> first | rfl | (simp [Ty.agg] at h)

theorem VRel.of_cells {ok : Nat → Prop} {w : World} {u : Ty} {y : u.den} {c : Nat → Option Value} (hr : u.rd ok w y c) (hu : u.agg = true) (cs : Array Value) (hs : cs.size = u.sz)
    (hc : ∀ j, j < u.sz → cs[j]? = c j) : VRel ok w u y (.agg cs) :=
  ⟨Ty.rd_congr _ _ _ _ (fun j hj => (hc j hj).symm) hr, hs, by rw [hu]; rfl⟩
theorem VRel.of_cell {ok : Nat → Prop} {w : World} {u : Ty} {y : u.den} {c : Nat → Option Value} (hr : u.rd ok w y c) (hu : u.agg = false) (v : Value) (hc : c 0 = some v) : VRel ok w u y v := by
  have h1 := Ty.sz_one hu
  have hone : Value.isAgg v = false := by
    obtain ⟨v', e, ho⟩ := Ty.rd_cell u y c hr 0 (by omega)
    rw [hc] at e; cases e
    cases v <;> first | rfl | (simp [Value.oneCell'] at ho)
  have hcs : v.cells = #[v] := by cases v <;> first | rfl | (simp [Value.isAgg] at hone)
  refine ⟨Ty.rd_congr _ _ _ _ (fun j hj => ?_) hr, by rw [hcs, h1]; rfl, by rw [hu, hone]⟩
  have : j = 0 := by omega
  subst this
  rw [hcs, hc]; rfl

theorem run_loadVar_rd {P : Program} {ok : Nat → Prop} {w : World} {t : TypeId} {u : Ty} {y : u.den} {b o : Nat} {cs : Array Value} {ty : TypeId} {fz : Nat × Nat} (hfit : fits P t u = true)
    (hh : w.heap[b]? = some (.cells cs ty fz)) (hr : u.rd ok w y (fun j => cs[o + j]?)) :
    ∃ V, (loadVar t ⟨b, o, none⟩).run P w = .ok V w ∧ VRel ok w u y V := by
  have hcell := Ty.rd_cell u y _ hr
  have hagg := fits_agg hfit
  cases hu : u.agg with
  | true =>
    rw [hu] at hagg
    have hl := run_loadCells (P := P) w ⟨b, o, none⟩ u.sz (fun j => (cs[o + j]?).getD undef) (fun j hj => by
      obtain ⟨v, hv, _⟩ := hcell j hj
      have hv' : cs[o + j]? = some v := hv
      rw [add_mk]
      simp [World.cell?, hh, hv'])
    refine ⟨.agg ((List.range u.sz).map fun j => (cs[o + j]?).getD undef).toArray, ?_, ?_⟩
    · simp only [loadVar, Sem.run_bind, run_isAgg hagg, Result.andThen_ok, if_true, run_sizeOf (fits_size hfit), hl, Sem.run_pure]
    refine VRel.of_cells hr hu _ (by simp) (fun j hj => ?_)
    obtain ⟨v, hv, _⟩ := hcell j hj
    have hv' : cs[o + j]? = some v := hv
    simp [hj, hv']
  | false =>
    rw [hu] at hagg
    obtain ⟨v, hv, _⟩ := hcell 0 (by rw [Ty.sz_one hu]; omega)
    have hv' : cs[o]? = some v := by simpa using hv
    refine ⟨v, ?_, VRel.of_cell hr hu v hv⟩
    simp [loadVar, run_isAgg hagg, World.cell?, hh, hv']

theorem VRel.cells_list {ok : Nat → Prop} {w : World} {u : Ty} {y : u.den} {v : Value} (h : VRel ok w u y v) : ∀ c ∈ v.cells.toList, c.oneCell' = true := by
  intro c hc
  obtain ⟨j, hj, e⟩ := List.getElem_of_mem hc
  have hj' : j < v.cells.size := by simpa using hj
  obtain ⟨v', hv', h1⟩ := Ty.rd_cell u y _ h.1 j (by rw [← h.2.1]; exact hj')
  have : v.cells[j]? = some c := by
    rw [Array.getElem?_eq_getElem hj']
    congr 1
  rw [this] at hv'
  cases hv'
  exact h1

theorem run_storeVar_rd {P : Program} {ok : Nat → Prop} {w : World} {t : TypeId} {u : Ty} {y : u.den} {v : Value} {b o : Nat} {cs : Array Value} {ty : TypeId} {fz : Nat × Nat} (hfit : sizeT P t = some u.sz)
    (hh : w.heap[b]? = some (.cells cs ty fz)) (hf : Thawed fz cs.size) (ho : o + u.sz ≤ cs.size) (hv : VRel ok w u y v) :
    ∃ w' cs', (storeVar t ⟨b, o, none⟩ v).run P w = .ok () w' ∧ Wrote w w' b (.cells cs' ty fz) ∧ cs'.size = cs.size ∧
      (∀ j, j < o ∨ o + u.sz ≤ j → cs'[j]? = cs[j]?) ∧ (∀ j, j < u.sz → cs'[o + j]? = v.cells[j]?) := by
  have hl : v.cells.toList.length = u.sz := by simpa using hv.2.1
  obtain ⟨w', e, k⟩ := run_storeCells_wrote (P := P) (b := b) (o0 := o) v.cells.toList 0 cs w hh hf (by omega) hv.cells_list
  refine ⟨w', _, ?_, k, size_writeAt _ _ _, ?_, ?_⟩
  · simp only [storeVar, Sem.run_bind, run_sizeOf hfit, Result.andThen_ok]
    rw [if_neg (by simp [hv.2.1])]
    exact e
  · intro j hj
    rw [Nat.add_zero, get_writeAt _ _ _ _ (by omega), if_neg (by omega)]
  · intro j hj
    rw [Nat.add_zero, get_writeAt _ _ _ _ (by omega), if_pos (by omega)]
    simp

end Go.Lift
