/- Lines for the functions of this seat; merged from texts of their own. -/
import Derived.Test.YtefajmghpgiekaaLA
import Derived.Laws.Tables
import Derived.Laws.StructEq
set_option linter.unusedVariables false
set_option linter.unusedSimpArgs false
/- What is made: variables, rows, structs; abstract, and that they tell what the machine does. -/
namespace Go.Lift
open Go

/-! ### zero values -/
def Ty.zero : Ty → List Value
  | .int k => [.int k 0]
  | .bool => [.bool false]
  | .str => [.string ByteArray.empty]
  | .unit => []
  | .ro _ => [.slice none 0 0]
  | .pair a b => a.zero ++ b.zero
  | .arr n t => (List.replicate n t.zero).flatten
theorem Ty.zero_length : ∀ (t : Ty), t.zero.length = t.sz := by
  intro t
  induction t with
  | pair a b iha ihb => simp [Ty.zero, Ty.sz, iha, ihb]
  | arr n t ih => simp [Ty.zero, Ty.sz, List.length_flatten, ih]
  | _ => rfl
theorem flatten_get {l : List Value} : ∀ (n i j : Nat), i < n → j < l.length → (List.replicate n l).flatten[i * l.length + j]? = l[j]? := by
  intro n
  induction n with
  | zero => intro i j h; omega
  | succ n ih =>
    intro i j hi hj
    rw [List.replicate_succ, List.flatten_cons]
    cases i with
    | zero => rw [Nat.zero_mul, Nat.zero_add, List.getElem?_append_left hj]
    | succ i =>
      rw [List.getElem?_append_right (by rw [Nat.add_mul]; omega)]
      rw [show (i + 1) * l.length + j - l.length = i * l.length + j from by rw [Nat.add_mul]; omega]
      exact ih i j (by omega) hj
theorem Ty.rd_zero (ok : Nat → Prop) (w : World) : ∀ (t : Ty), t.rd ok w t.dflt (fun j => t.zero[j]?) := by
  intro t
  induction t with
  | int k => rfl
  | bool => rfl
  | str => rfl
  | unit => trivial
  | ro t ih => exact ⟨none, 0, rfl, Nat.le_refl _, .inl rfl⟩
  | pair a b iha ihb =>
    refine ⟨Ty.rd_congr _ _ _ _ (fun j hj => ?_) iha, Ty.rd_congr _ _ _ _ (fun j hj => ?_) ihb⟩
    · simp only [Ty.zero]
      rw [List.getElem?_append_left (by rw [a.zero_length]; exact hj)]
    · simp only [Ty.zero]
      rw [List.getElem?_append_right (by rw [a.zero_length]; omega), a.zero_length, Nat.add_sub_cancel_left]
  | arr n t ih =>
    refine ⟨by simp [Ty.dflt], fun i hi => ?_⟩
    have hi' : i < n := by simpa [Ty.dflt] using hi
    have e : (Ty.arr n t).dflt[i]'hi = t.dflt := by simp [Ty.dflt]
    rw [e]
    refine Ty.rd_congr _ _ _ _ (fun j hj => ?_) ih
    simp only [Ty.zero]
    have := flatten_get (l := t.zero) n i j hi' (by rw [t.zero_length]; exact hj)
    rw [t.zero_length] at this
    exact this.symm

def isZ : Value → Value → Bool
  | .int k 0, .int k' 0 => k == k'
  | .bool false, .bool false => true
  | .string s, .string s' => s.data.toList.isEmpty && s'.data.toList.isEmpty
  | .slice none 0 0, .slice none 0 0 => true
  | _, _ => false
theorem isZ_eq {u v : Value} (h : isZ u v = true) : u = v := by
  unfold isZ at h
  split at h
  · simp at h; subst h; rfl
  · rfl
  · rename_i s s'
    simp at h
    cases s; cases s'
    simp at h
    simp [h.1, h.2]
  · rfl
  · cases h
def allZ : List Value → List Value → Bool
  | [], [] => true
  | u :: us, v :: vs => isZ u v && allZ us vs
  | _, _ => false
theorem allZ_eq : ∀ {us vs : List Value}, allZ us vs = true → us = vs
  | [], [], _ => rfl
  | u :: us, v :: vs, h => by
    simp only [allZ, Bool.and_eq_true] at h
    rw [isZ_eq h.1, allZ_eq h.2]
  | [], _ :: _, h => by simp [allZ] at h
  | _ :: _, [], h => by simp [allZ] at h

/-- The shape of a type of the program, slices as what is not written. -/
def tyFields (f : TypeId → Option Ty) : List Field → Option Ty
  | [] => some .unit
  | x :: xs => match f x.type, tyFields f xs with
    | some a, some b => some (.pair a b)
    | _, _ => none
def tyOf (P : Program) : Nat → TypeId → Option Ty
  | 0, _ => none
  | n + 1, t => match P.underlying t with
    | some (.int k) => some (.int k)
    | some .bool => some .bool
    | some .string => some .str
    | some (.slice e) => (tyOf P n e).map Ty.ro
    | some (.array m e) => (tyOf P n e).map (Ty.arr m)
    | some (.struct fs) => tyFields (tyOf P n) fs.toList
    | _ => none

/-- The type's shape, if the program's zero value is its zero. -/
def zty (P : Program) (t : TypeId) : Option Ty :=
  match tyOf P 12 t with
  | none => none
  | some u => match P.info? t with
    | none => none
    | some i => match i.zero with
      | none => none
      | some z => if i.size = u.sz ∧ allZ u.zero z.cells.toList = true ∧ Value.isAgg z = u.agg then some u else none
structure ZTy (P : Program) (t : TypeId) (u : Ty) : Prop where
  ex : ∃ i z, P.info? t = some i ∧ i.zero = some z ∧ i.size = u.sz ∧ z.cells.toList = u.zero ∧ Value.isAgg z = u.agg
theorem zty_spec {P : Program} {t : TypeId} {u : Ty} (h : zty P t = some u) : ZTy P t u := by
  unfold zty at h
  split at h
  · cases h
  · rename_i u' _
    split at h
    · cases h
    · rename_i i hi
      split at h
      · cases h
      · rename_i z hz
        split at h
        · rename_i hc
          cases h
          exact ⟨i, z, hi, hz, hc.1, (allZ_eq hc.2.1).symm, hc.2.2⟩
        · cases h
theorem ZTy.size {P : Program} {t : TypeId} {u : Ty} (h : ZTy P t u) : sizeT P t = some u.sz := by
  obtain ⟨i, z, hi, _, hs, _⟩ := h.ex
  simp [sizeT, hi, hs]
theorem ZTy.run {P : Program} {t : TypeId} {u : Ty} (h : ZTy P t u) (ok : Nat → Prop) (w w' : World) : ∃ z, (zeroValue t).run P w = .ok z w ∧ VRel ok w' u u.dflt z ∧ z.cells.toList = u.zero := by
  obtain ⟨i, z, hi, hz, hs, hc, ha⟩ := h.ex
  refine ⟨z, by simp [zeroValue, typeInfo, hi, hz], ⟨?_, ?_, ha⟩, hc⟩
  · have := Ty.rd_zero ok w' u
    rw [← hc] at this
    simpa using this
  · rw [← Array.length_toList, hc, u.zero_length]

/-- A new block, a new region. -/
theorem RelF.new {cx : Cx} {φ : Phi} {st : St} {a : Act} {w : World} (R : RelF cx φ st a w) {n : Nat} (hf : FreshN cx st n) (g : Reg) (cs : Array Value) (ty : TypeId) (fz : Nat × Nat) (off cap : Nat)
    (hat : ∀ w', w'.heap[w.heap.size]? = some (.cells cs ty fz) → g.at2 (okOf st.regs φ) w w' ⟨some w.heap.size, off, cap⟩) :
    RelF cx (setLoc φ n ⟨some w.heap.size, off, cap⟩) { st with regs := upd st.regs n (some g) } a { w with heap := w.heap.push (.cells cs ty fz) } :=
  R.step none n g ⟨some w.heap.size, off, cap⟩ (fun b hb => .inl (by cases hb; exact Nat.le_refl _))
    (fun b hb _ => by simp [Array.getElem?_push, Nat.ne_of_lt hb]) (.inl hf.1) (fun l0 hl => (hf.2 l0 hl).elim)
    (hat _ (by simp)) rfl rfl rfl (by simp)

theorem thaw0 (n : Nat) : Thawed (0, 0) n := by intro i _; simp

/-! ### a variable -/
def boxV (x : SV) (n : Nat) : Option (SV × Eff) :=
  match x with
  | .val u y => some (.addr n [], [.set none n (.box u y)])
  | _ => none
theorem new_box {cx : Cx} {φ : Phi} {st : St} {a : Act} {w : World} (R : RelF cx φ st a w) {n : Nat} (hf : FreshN cx st n) {u : Ty} {y : u.den} {v : Value} (ty : TypeId)
    (hv : VRel (okOf st.regs φ) w u y v) : RelF cx (setLoc φ n ⟨some w.heap.size, 0, 0⟩) { st with regs := upd st.regs n (some (.box u y)) } a { w with heap := w.heap.push (.cells v.cells ty) } := by
  refine R.new hf (.box u y) v.cells ty (0, 0) 0 0 (fun w' hw' => ⟨rfl, w.heap.size, v.cells, ty, (0, 0), rfl, hw', thaw0 _, hv.2.1, hv.1⟩)
theorem addr_new {φ : Phi} {rs : Regs} {n : Nat} {b : Nat} {ok : Nat → Prop} {w : World} {u : Ty} {y : u.den} (hφ : φ n = ⟨some b, 0, 0⟩) (hl : look rs n = some (.box u y)) :
    SVRel rs φ ok w (.addr n []) (.pointer (some ⟨b, 0, none⟩)) := by
  intro g hg
  rw [hl] at hg; cases hg
  exact ⟨b, by rw [hφ], by simp [pok], by simp [poff]⟩
theorem boxV_sound {cx : Cx} {φ : Phi} {st : St} {a : Act} {w : World} (R : RelF cx φ st a w) {n : Nat} (hf : FreshN cx st n) {t : TypeId} {x v : SV} {e : Eff} {X : Value}
    (h : boxV x n = some (v, e)) (hx : SVRel st.regs φ (okOf st.regs φ) w x X) :
    ∃ V w' φ', (Instr.box t X).run cx.P w = .ok V w' ∧ RelF cx φ' { st with regs := e.app st.regs } a w' ∧ SVRel (e.app st.regs) φ' (okOf (e.app st.regs) φ') w' v V := by
  unfold boxV at h
  split at h
  · rename_i u y
    cases h
    have R1 := new_box R hf t hx
    exact ⟨.pointer (some ⟨w.heap.size, 0, none⟩), _, _, by simp [Instr.box, newVar, newRow], R1, addr_new (u := u) (y := y) (by simp [setLoc]) (by rw [Eff.app, Eff.app, EffI.app, look_upd, if_pos rfl])⟩
  · cases h

def allocV (P : Program) (t : TypeId) (n : Nat) : Option (SV × Eff) :=
  match zty P t with
  | some u => some (.addr n [], [.set none n (.box u u.dflt)])
  | none => none
theorem allocV_sound {cx : Cx} {φ : Phi} {st : St} {a : Act} {w : World} (R : RelF cx φ st a w) {n : Nat} (hf : FreshN cx st n) {t : TypeId} {v : SV} {e : Eff}
    (h : allocV cx.P t n = some (v, e)) :
    ∃ V w' φ', (Instr.alloc t true (.tuple #[])).run cx.P w = .ok V w' ∧ RelF cx φ' { st with regs := e.app st.regs } a w' ∧ SVRel (e.app st.regs) φ' (okOf (e.app st.regs) φ') w' v V := by
  unfold allocV at h
  split at h
  · rename_i u hu
    cases h
    obtain ⟨z, hz, hv, _⟩ := (zty_spec hu).run (okOf st.regs φ) w w
    have R1 := new_box R hf t hv
    exact ⟨.pointer (some ⟨w.heap.size, 0, none⟩), _, _, by simp [Instr.alloc, hz, newVar, newRow], R1, addr_new (u := u) (y := u.dflt) (by simp [setLoc]) (by rw [Eff.app, Eff.app, EffI.app, look_upd, if_pos rfl])⟩
  · cases h

/-! ### a row -/
theorem sl_new {φ : Phi} {rs : Regs} {n : Nat} {ok : Nat → Prop} {w : World} {u : Ty} {xs : List u.den} {v : Value} (hl : look rs n = some (.row u xs))
    (hv : v = .slice (φ n).addr xs.length (φ n).cap) : SVRel rs φ ok w (.sl n) v := by
  intro t ys hg
  rw [hl] at hg; cases hg
  exact hv

def makeV (P : Program) (t : TypeId) (l c : SV) (n : Nat) : Option (List Prop × SV × Eff) :=
  match P.underlying t, l, c with
  | some (.slice e), .val (.int _) l, .val (.int _) c => match zty P e, bytesT P e with
    | some u, some by_ => if 1 ≤ by_ then some ([0 ≤ l, l ≤ c, (by_ : Int) * c ≤ 281474976710656], .sl n, [.set none n (.row u (List.replicate l.toNat u.dflt))]) else none
    | _, _ => none
  | _, _, _ => none
theorem made_get (z : List Value) (n j : Nat) (hz : 0 < z.length) (hj : j < n) : (madeCells z.toArray n)[j]? = z[j % z.length]? := by
  have h1 : j % z.length < z.length := Nat.mod_lt _ hz
  simp [madeCells, hj, h1]
theorem makeV_sound {cx : Cx} {φ : Phi} {st : St} {a : Act} {w : World} (R : RelF cx φ st a w) {n : Nat} (hf : FreshN cx st n) {t : TypeId} {l c v : SV} {vc : List Prop} {e : Eff} {L C : Value}
    (h : makeV cx.P t l c n = some (vc, v, e)) (hvc : ∀ p ∈ vc, p) (hl : SVRel st.regs φ (okOf st.regs φ) w l L) (hc : SVRel st.regs φ (okOf st.regs φ) w c C) :
    ∃ V w' φ', (Instr.makeSlice t L C).run cx.P w = .ok V w' ∧ RelF cx φ' { st with regs := e.app st.regs } a w' ∧ SVRel (e.app st.regs) φ' (okOf (e.app st.regs) φ') w' v V := by
  unfold makeV at h
  split at h
  · rename_i e0 k1 l k2 c hu
    split at h
    · rename_i u by_ hzt hby
      split at h
      · rename_i hb1
        cases h
        have eL : L = .int k1 l := VRel.int_eq hl
        have eC : C = .int k2 c := VRel.int_eq hc
        subst eL; subst eC
        have h0 : @LE.le Int _ 0 l := hvc _ (by simp)
        have h1 : @LE.le Int _ l c := hvc _ (by simp)
        have h2 : @LE.le Int _ ((by_ : Int) * c) 281474976710656 := hvc _ (by simp)
        obtain ⟨i, z, hi, hz, hs, hzc, ha⟩ := (zty_spec hzt).ex
        have hbi : i.bytes = by_ := by simpa [bytesT, hi] using hby
        subst hbi
        have hcc : @LE.le Int _ c 281474976710656 := by
          have : (1 : Int) * c ≤ (i.bytes : Int) * c := Int.mul_le_mul_of_nonneg_right (by omega) (Int.le_trans h0 h1)
          rw [Int.one_mul] at this
          exact Int.le_trans this h2
        have hrun := run_make (P := cx.P) w t e0 i z hu hi hz k1 k2 l c h0 h1 h2 (Int.le_trans hcc (by decide))
        have hzc' : z.cells = u.zero.toArray := by rw [← hzc]
        have h1' : (Int.toNat l) ≤ (Int.toNat c) := Int.toNat_le_toNat h1
        have R1 := R.new hf (.row u (List.replicate (Int.toNat l) u.dflt)) (madeCells z.cells ((Int.toNat c) * i.size)) e0 (0, 0) 0 (Int.toNat c)
          (fun w' hw' => by
            refine ⟨by simpa using h1', ?_⟩
            refine ⟨_, e0, (0, 0), hw', thaw0 _, by rw [size_madeCells, hs]; exact Nat.le_of_eq (Nat.zero_add _), fun k hk => ?_⟩
            have hk' : k < (Int.toNat l) := by simpa using hk
            have e1 : (List.replicate (Int.toNat l) u.dflt)[k]'hk = u.dflt := by simp
            rw [e1]
            refine Ty.rd_congr _ _ _ _ (fun j hj => ?_) (Ty.rd_zero _ _ u)
            rw [hzc', hs, made_get _ _ _ (by rw [u.zero_length]; omega) (by rw [Nat.zero_add]; exact mul_lt_of (by omega) hj), u.zero_length]
            rw [Nat.zero_add, Nat.mul_comm k u.sz, Nat.mul_add_mod, Nat.mod_eq_of_lt hj])
        refine ⟨_, _, _, hrun, R1, sl_new (u := u) (xs := List.replicate (Int.toNat l) u.dflt) (by rw [Eff.app, Eff.app, EffI.app, look_upd, if_pos rfl]) ?_⟩
        simp [setLoc, Loc.addr]
      · cases h
    · cases h
  · cases h

end Go.Lift
/- Appending, abstract, and that it tells what the machine does. -/
namespace Go.Lift
open Go

def strBytes (b : ByteArray) : List Int := b.data.toList.map fun c => (c.toNat : Int)

/-- A slice that is read: its elements' type, its elements. -/
def rowOf (rs : Regs) : SV → Option ((t : Ty) × List t.den)
  | .sl r => match look rs r with
    | some (.row t xs) => some ⟨t, xs⟩
    | _ => none
  | .val (.ro t) xs => some ⟨t, xs⟩
  | _ => none

theorem rowOf_sound {cx : Cx} {φ : Phi} {st : St} {a : Act} {w : World} (R : RelF cx φ st a w) {x : SV} {t : Ty} {xs : List t.den} {X : Value}
    (h : rowOf st.regs x = some ⟨t, xs⟩) (hx : SVRel st.regs φ (okOf st.regs φ) w x X) :
    ∃ ad cap, X = .slice ad xs.length cap ∧ xs.length ≤ cap ∧ (xs = [] ∨ ∃ b off cs ty fz, ad = some ⟨b, off, none⟩ ∧ w.heap[b]? = some (.cells cs ty fz) ∧
      ∀ i (h : i < xs.length), t.rd (okOf st.regs φ) w xs[i] (fun j => cs[off + i * t.sz + j]?)) := by
  unfold rowOf at h
  split at h
  · rename_i r
    split at h
    · rename_i t' xs' hl
      cases h
      have hX := hx _ _ hl
      have h2 := R.rg r _ hl
      refine ⟨_, _, hX, h2.1, ?_⟩
      have h3 := h2.2
      cases hbl : (φ r).blk with
      | none =>
        simp only [hbl] at h3
        left
        have h4 : xs.length ≤ (φ r).cap := h2.1
        exact List.length_eq_zero_iff.1 (by omega)
      | some b =>
        simp only [hbl] at h3
        obtain ⟨cs, ty, fz, e1, _, _, e4⟩ := h3
        exact .inr ⟨b, (φ r).off, cs, ty, fz, by simp [Loc.addr, hbl], e1, e4⟩
    · cases h
  · rename_i t' xs'
    cases h
    have hV : VRel _ _ _ _ _ := hx
    obtain ⟨a0, cap, g0, g1, g2⟩ := hV.1
    rw [hV.cells_one rfl] at g0
    have hX : X = .slice a0 (List.length xs) cap := by simpa using g0
    refine ⟨a0, cap, hX, g1, ?_⟩
    rcases g2 with g2 | ⟨b, off, cs, ty, fz, f1, f2, f3, f4⟩
    · exact .inl g2
    · exact .inr ⟨b, off, cs, ty, fz, f1, f3, f4⟩
  · cases h

/-- The cells that a slice's first elements have. -/
structure Cells (ok : Nat → Prop) (w : World) (t : Ty) (xs : List t.den) (cs : List Value) : Prop where
  len : cs.length = xs.length * t.sz
  one : ∀ c ∈ cs, c.oneCell' = true
  rd : ∀ i (h : i < xs.length), t.rd ok w xs[i] (fun j => cs[i * t.sz + j]?)

theorem Cells.nil (ok : Nat → Prop) (w : World) (t : Ty) : Cells ok w t [] [] := ⟨by simp, by simp, by simp⟩

theorem cells_of {ok : Nat → Prop} {w : World} {t : Ty} {xs : List t.den} {cs : Array Value} {off : Nat}
    (h : ∀ i (h : i < xs.length), t.rd ok w xs[i] (fun j => cs[off + i * t.sz + j]?)) :
    Cells ok w t xs ((List.range (xs.length * t.sz)).map fun j => (cs[off + j]?).getD undef) ∧ ∀ j, j < xs.length * t.sz → cs[off + j]? = some ((cs[off + j]?).getD undef) := by
  have key : ∀ j, j < xs.length * t.sz → ∃ v, cs[off + j]? = some v ∧ v.oneCell' = true := by
    intro j hj
    have hs : 0 < t.sz := by
      rcases Nat.eq_zero_or_pos t.sz with h0 | h0
      · rw [h0] at hj; simp at hj
      · exact h0
    have hd : j / t.sz < xs.length := Nat.div_lt_of_lt_mul (by rw [Nat.mul_comm]; exact hj)
    obtain ⟨v, hv, h1⟩ := Ty.rd_cell t _ _ (h (j / t.sz) hd) (j % t.sz) (Nat.mod_lt _ hs)
    have hv' : cs[off + j / t.sz * t.sz + j % t.sz]? = some v := hv
    rw [Nat.add_assoc, Nat.mul_comm, Nat.div_add_mod] at hv'
    exact ⟨v, hv', h1⟩
  refine ⟨⟨by simp, ?_, ?_⟩, ?_⟩
  · intro c hc
    simp only [List.mem_map, List.mem_range] at hc
    obtain ⟨j, hj, e⟩ := hc
    obtain ⟨v, hv, h1⟩ := key j hj
    rw [hv] at e
    subst e
    exact h1
  · intro i hi
    refine Ty.rd_congr _ _ _ _ (fun j hj => ?_) (h i hi)
    have hlt := mul_lt_of hi hj
    obtain ⟨v, hv, _⟩ := key _ hlt
    simp only [← Nat.add_assoc] at hv ⊢
    simp [hlt, ← Nat.add_assoc, hv]
  · intro j hj
    obtain ⟨v, hv, _⟩ := key j hj
    rw [hv]; rfl

theorem run_firstCells {P : Program} {cx : Cx} {φ : Phi} {st : St} {a : Act} {w : World} (R : RelF cx φ st a w) {x : SV} {t : Ty} {xs : List t.den} {X : Value}
    (h : rowOf st.regs x = some ⟨t, xs⟩) (hx : SVRel st.regs φ (okOf st.regs φ) w x X) :
    ∃ cs : List Value, (∀ w' : World, w'.heap = w.heap → (Builtin.firstCells t.sz xs.length X).run P w' = .ok cs.toArray w') ∧ Cells (okOf st.regs φ) w t xs cs := by
  obtain ⟨ad, cap, rfl, _, h2⟩ := rowOf_sound R h hx
  rcases h2 with h2 | ⟨b, off, cs, ty, fz, e1, e2, e3⟩
  · subst h2
    refine ⟨[], fun w' _ => ?_, Cells.nil _ _ _⟩
    cases ad <;> simp [Builtin.firstCells, loadCells, loadCellsFrom]
  · subst e1
    obtain ⟨hC, hget⟩ := cells_of e3
    refine ⟨_, fun w' hw' => ?_, hC⟩
    have := run_loadCells (P := P) w' ⟨b, off, none⟩ (xs.length * t.sz) (fun j => (cs[off + j]?).getD undef) (fun j hj => by
      rw [add_mk]
      simp [World.cell?, hw', e2, ← hget j hj])
    simp only [Builtin.firstCells, this]

theorem Cells.append {ok : Nat → Prop} {w : World} {t : Ty} {xs ys : List t.den} {cs ds : List Value} (h : Cells ok w t xs cs) (k : Cells ok w t ys ds) : Cells ok w t (xs ++ ys) (cs ++ ds) := by
  refine ⟨by simp [h.len, k.len, Nat.add_mul], ?_, ?_⟩
  · intro c hc
    rcases List.mem_append.1 hc with hc | hc
    · exact h.one c hc
    · exact k.one c hc
  · intro i hi
    by_cases hx : i < xs.length
    · have e : (xs ++ ys)[i]'hi = xs[i] := List.getElem_append_left hx
      rw [e]
      refine Ty.rd_congr _ _ _ _ (fun j hj => ?_) (h.rd i hx)
      have := mul_lt_of hx hj
      rw [List.getElem?_append_left (by rw [h.len]; exact this)]
    · have hi' : i - xs.length < ys.length := by simp at hi; omega
      have e : (xs ++ ys)[i]'hi = ys[i - xs.length] := List.getElem_append_right (by omega)
      rw [e]
      refine Ty.rd_congr _ _ _ _ (fun j hj => ?_) (k.rd _ hi')
      have hle : xs.length * t.sz ≤ i * t.sz := Nat.mul_le_mul_right _ (by omega)
      rw [List.getElem?_append_right (by rw [h.len]; omega), h.len]
      congr 1
      rw [Nat.sub_mul]
      omega

theorem growBy_le (n : Nat) (hn : 256 ≤ n) : ∀ (r c : Nat), c ≤ 2 * n → Builtin.growBy n r c ≤ 2 * n := by
  intro r
  induction r with
  | zero => intro c hc; simpa [Builtin.growBy] using hc
  | succ r ih =>
    intro c hc
    simp only [Builtin.growBy]
    split
    · exact hc
    · exact ih _ (by omega)
theorem nextcap_le (n c : Nat) (h : c < n) : Builtin.nextslicecap n c ≤ 2 * n := by
  unfold Builtin.nextslicecap
  split
  · omega
  · split
    · omega
    · exact growBy_le n (by omega) 4 c (by omega)

def source (P : Program) (rs : Regs) (xT : TypeId) (τ : Ty) (x : SV) : Option (List Prop × List τ.den) :=
  match P.underlying xT with
  | some .string => match x with
    | .val .str b => (castTy (.ro (.int .u8)) (.ro τ) (strBytes b)).map fun ys => ([], ys)
    | _ => none
  | some (.slice _) => match x with
    | .nilsl => some ([], [])
    | x => match rowOf rs x with
      | some ⟨t, xs⟩ => (castTy (.ro t) (.ro τ) xs).map fun ys => ([], ys)
      | none => none
  | some (.int _) => match x with
    | .val (.int _) n => some ([@LE.le Int _ 0 n, @LE.le Int _ n 140737488355328], List.replicate (Int.toNat n) τ.dflt)
    | _ => none
  | _ => none

/-- What is appended: the cells of a row or a string, or so many noughts. -/
def SrcAt (P : Program) (w : World) (xT : TypeId) (sz : Nat) (z : Value) (m : Nat) (X : Value) (new : List Value) : Prop :=
  ((P.underlying xT = some .string ∨ ∃ e', P.underlying xT = some (.slice e')) ∧ (Builtin.lenOf X).run P w = .ok m w ∧ ∀ w' : World, w'.heap = w.heap → (Builtin.firstCells sz m X).run P w' = .ok new.toArray w') ∨
  (∃ k k', P.underlying xT = some (.int k') ∧ X = .int k (m : Int) ∧ m ≤ 140737488355328 ∧ new.toArray = Builtin.zeroCells z.cells m)

theorem zeroCells_size (z : Array Value) (n : Nat) : (Builtin.zeroCells z n).size = n * z.size := by simp [Builtin.zeroCells]
theorem zeroCells_get (z : List Value) (n j : Nat) (hz : 0 < z.length) (hj : j < n * z.length) : (Builtin.zeroCells z.toArray n)[j]? = z[j % z.length]? := by
  have h1 : j % z.length < z.length := Nat.mod_lt _ hz
  simp [Builtin.zeroCells, hj, h1]

theorem source_sound {cx : Cx} {φ : Phi} {st : St} {a : Act} {w : World} (R : RelF cx φ st a w) {xT : TypeId} {τ : Ty} {x : SV} {ps : List Prop} {ys : List τ.den} {X z : Value}
    (h : source cx.P st.regs xT τ x = some (ps, ys)) (hvc : ∀ p ∈ ps, p) (hz : z.cells = τ.zero.toArray) (hx : SVRel st.regs φ (okOf st.regs φ) w x X) :
    ∃ cs : List Value, SrcAt cx.P w xT τ.sz z ys.length X cs ∧ Cells (okOf st.regs φ) w τ ys cs := by
  unfold source at h
  split at h
  · rename_i hu
    split at h
    · rename_i b
      have eX : X = .string b := VRel.str_eq hx
      subst eX
      simp only [Option.map_eq_some_iff, Prod.mk.injEq] at h
      obtain ⟨ys', h, _, rfl⟩ := h
      obtain ⟨e1, e2⟩ := castTy_some h
      cases e1
      have e2 : strBytes b = ys' := e2
      subst e2
      have hlen : (strBytes b).length = b.size := by simp [strBytes]
      refine ⟨b.data.toList.map (fun c => Value.int .u8 c.toNat), .inl ⟨.inl hu, by simp [Builtin.lenOf, hlen], fun w' _ => ?_⟩, ⟨by simp [Ty.sz, strBytes], ?_, ?_⟩⟩
      · have : b.extract 0 b.size = b := by
          apply ByteArray.ext
          simp
        simp only [Builtin.firstCells, hlen, this, Sem.run_pure]
        congr 1
        apply Array.ext'
        simp
      · intro c hc
        simp only [List.mem_map] at hc
        obtain ⟨d, _, rfl⟩ := hc
        rfl
      · intro i hi
        have hi' : i < b.data.toList.length := by simpa [strBytes] using hi
        show _ = _
        simp [Ty.sz, strBytes, List.getElem?_eq_getElem hi']
    · cases h
  · rename_i e hu
    split at h
    · cases h
      have hX : X = .slice none 0 0 := hx
      subst hX
      exact ⟨[], .inl ⟨.inr ⟨_, hu⟩, by simp [Builtin.lenOf], by simp [Builtin.firstCells]⟩, Cells.nil _ _ _⟩
    · split at h
      · rename_i t xs hr
        simp only [Option.map_eq_some_iff, Prod.mk.injEq] at h
        obtain ⟨ys', h, _, rfl⟩ := h
        obtain ⟨e1, e2⟩ := castTy_some h
        cases e1
        have e2 : xs = ys' := e2
        subst e2
        obtain ⟨cs, hc, hC⟩ := run_firstCells (P := cx.P) R hr hx
        obtain ⟨ad, cap, rfl, _, _⟩ := rowOf_sound R hr hx
        exact ⟨cs, .inl ⟨.inr ⟨_, hu⟩, by simp [Builtin.lenOf], hc⟩, hC⟩
      · cases h
  · rename_i k' hu
    split at h
    · rename_i k n
      cases h
      have eX : X = .int k n := VRel.int_eq hx
      subst eX
      have h0 : @LE.le Int _ 0 n := hvc _ (by simp)
      have h1 : @LE.le Int _ n 140737488355328 := hvc _ (by simp)
      obtain ⟨m, rfl⟩ := Int.eq_ofNat_of_zero_le h0
      have hm : m ≤ 140737488355328 := by omega
      have hzl : z.cells.size = τ.sz := by rw [hz]; exact τ.zero_length
      obtain ⟨hC, hg⟩ := cells_of (ok := okOf st.regs φ) (w := w) (t := τ) (xs := List.replicate m τ.dflt) (cs := Builtin.zeroCells z.cells m) (off := 0) (fun i hi => by
        have hi' : i < m := by simpa using hi
        rw [List.getElem_replicate]
        refine Ty.rd_congr _ _ _ _ (fun j hj => ?_) (Ty.rd_zero _ _ τ)
        rw [hz, zeroCells_get _ _ _ (by rw [τ.zero_length]; omega) (by rw [τ.zero_length, Nat.zero_add]; exact mul_lt_of hi' hj), τ.zero_length, Nat.zero_add, Nat.mul_comm i τ.sz, Nat.mul_add_mod, Nat.mod_eq_of_lt hj])
      refine ⟨_, .inr ⟨k, k', hu, by simp, by simpa using hm, ?_⟩, hC⟩
      simp only [Int.toNat_natCast, List.length_replicate] at hg ⊢
      apply Array.ext'
      refine List.ext_getElem? fun j => ?_
      simp only [List.getElem?_map, Nat.zero_add] at hg ⊢
      by_cases hj : j < m * τ.sz
      · rw [List.getElem?_range hj, Option.map_some, ← hg j hj, Array.getElem?_toList]
      · rw [List.getElem?_eq_none (by simpa using hj), List.getElem?_eq_none (by rw [Array.length_toList, zeroCells_size, hzl]; omega)]; rfl
    · cases h
  · cases h

def appendV (P : Program) (rs : Regs) (sT xT : TypeId) (s x : SV) (n : Nat) : Option (List Prop × SV × Eff) :=
  match P.underlying sT with
  | some (.slice e) => match zty P e, bytesT P e with
    | some τ, some by_ => match source P rs xT τ x with
      | some (ps, ys) => if 1 ≤ by_ then
          match s with
          | .nilsl => some (ps ++ [ys.length * by_ ≤ 140737488355328], .sl n, [.set none n (.row τ ys)])
          | .sl r => match look rs r with
            | some (.row τ' xs) => match castTy (.ro τ') (.ro τ) xs with
              | some xs => some (ps ++ [(List.length xs + ys.length) * by_ ≤ 140737488355328], .sl n, [.set (some r) n (.row τ (List.append xs ys))])
              | none => none
            | _ => none
          | _ => none
        else none
      | none => none
    | _, _ => none
  | _ => none

def backTo (base : Option Addr) (k : Nat) (vs : List Value) : Sem Unit :=
  match base with
  | some a => storeCells (a.add k) vs
  | none => pure ()

/-- The machine's append, in the two ways it may go. -/
theorem run_append_cases {P : Program} {w : World} {sT xT ty e : TypeId} {i : TypeInfo} {z : Value} {base : Option Addr} {sLen sCap m : Nat} {X : Value} {new old : List Value}
    (hu : P.underlying sT = some (.slice e)) (hi : P.info? e = some i) (hz : i.zero = some z) (hzc : z.cells.size = i.size)
    (hb : 1 ≤ i.bytes) (hsrc : SrcAt P w xT i.size z m X new)
    (hold : ∀ w' : World, w'.heap = w.heap → (Builtin.firstCells i.size sLen (.slice base sLen sCap)).run P w' = .ok old.toArray w')
    (hroom : (sLen + m) * i.bytes ≤ 140737488355328) :
    (sLen + m ≤ sCap → (Builtin.append_ #[sT, xT] ty #[.slice base sLen sCap, X]).run P w =
      ((backTo base (sLen * i.size) new).run P w).andThen fun _ w' => .ok (.slice base (sLen + m) sCap) w') ∧
    (sCap < sLen + m → ∃ (cap : Nat) (rest : List Value) (w1 : World), sLen + m ≤ cap ∧ rest.length = (cap - (sLen + m)) * z.cells.size ∧ w1.heap = w.heap ∧ w1.os = w.os ∧ w1.tape = w.tape ∧ w1.output = w.output ∧
      (Builtin.append_ #[sT, xT] ty #[.slice base sLen sCap, X]).run P w = .ok (.slice (some ⟨w.heap.size, 0, none⟩) (sLen + m) cap) (w1.alloc (.cells (old.toArray ++ (new.toArray ++ rest.toArray)) e))) := by
  have hty : (typeInfo e).run P w = .ok i w := by simp [typeInfo, hi]
  have hsz : ∀ w, (sizeOf e).run P w = .ok i.size w := fun w => by simp [sizeOf, typeInfo, hi]
  have hz' : ∀ w, (zeroValue e).run P w = .ok z w := fun w => by simp [zeroValue, typeInfo, hi, hz]
  have hzero : m * i.size = 0 → Builtin.zeroCells z.cells m = #[] := fun h => by
    apply Array.eq_empty_of_size_eq_zero
    rw [zeroCells_size, hzc, h]
  have hw47 : m ≤ 140737488355328 → IntKind.i64.wrap (m : Int) = m := fun h => by rw [IntKind.wrap_i64]; omega
  have hmb : m * i.bytes ≤ 140737488355328 := Nat.le_trans (Nat.mul_le_mul_right _ (by omega)) hroom
  have hmb' : ¬ (281474976710656 < (m : Int) * (i.bytes : Int)) := by
    have : ((m * i.bytes : Nat) : Int) ≤ 140737488355328 := by omega
    rw [Int.natCast_mul] at this
    omega
  have hneed : sLen + m ≤ 140737488355328 := Nat.le_trans (Nat.le_mul_of_pos_right _ (by omega)) hroom
  constructor
  · intro hle
    rcases hsrc with ⟨hd, hlen, hnew⟩ | ⟨k, k', hd, rfl, hm, hnew⟩
    · have hn := hnew w rfl
      rcases hd with hd | ⟨e', hd⟩ <;> cases base <;> simp [backTo, Builtin.append_, run_underlying hu, hsz, run_underlying hd, hlen, hle, hn]
    · have hw := hw47 hm
      have hm0 : ¬ ((m : Int) < 0) := by omega
      have hnl : new = (Builtin.zeroCells z.cells m).toList := by rw [← hnew]
      by_cases h0 : m * i.size = 0
      · have := hzero h0
        cases base <;> simp [backTo, Builtin.append_, run_underlying hu, hsz, run_underlying hd, asInt, asIntOf, hw, hm0, hty, hmb', h0, hle, hnl, this]
      · cases base <;> simp [backTo, Builtin.append_, run_underlying hu, hsz, run_underlying hd, asInt, asIntOf, hw, hm0, hty, hmb', h0, hle, hnl, hz']
  · intro hlt
    have hcap : Builtin.nextslicecap (sLen + m) sCap * i.bytes ≤ 281474976710656 := by
      have h1 := nextcap_le (sLen + m) sCap hlt
      have h2 : Builtin.nextslicecap (sLen + m) sCap * i.bytes ≤ 2 * (sLen + m) * i.bytes := Nat.mul_le_mul_right _ h1
      rw [Nat.mul_assoc] at h2
      omega
    have hb0 : ¬ i.bytes = 0 := by omega
    have n1 : ¬ sLen + m ≤ sCap := by omega
    have n2 : ¬ (281474976710656 < Builtin.nextslicecap (sLen + m) sCap * i.bytes) := by omega
    let q := Question.appendCap (sLen + m) sCap e
    have hcut : sLen + m ≤ q.cut (w.tape w.drawn q) := by
      show sLen + m ≤ (sLen + m) + _
      omega
    refine ⟨q.cut (w.tape w.drawn q), (Builtin.zeroCells z.cells (q.cut (w.tape w.drawn q) - (sLen + m))).toList, w.drew, hcut, ?_, rfl, rfl, rfl, rfl, ?_⟩
    · simp [Builtin.zeroCells]
    · have ho := hold w.drew rfl
      rcases hsrc with ⟨hd, hlen, hnew⟩ | ⟨k, k', hd, rfl, hm, hnew⟩
      rotate_left
      · have hw := hw47 hm
        have hm0 : ¬ ((m : Int) < 0) := by omega
        have hnl : new = (Builtin.zeroCells z.cells m).toList := by rw [← hnew]
        have hmx : IntKind.i64.max = 9223372036854775807 := by decide
        have n3 : ¬ (9223372036854775807 < (sLen : Int) + (m : Int)) := by omega
        by_cases h0 : m * i.size = 0
        · have := hzero h0
          simp [Builtin.append_, run_underlying hu, hsz, run_underlying hd, asInt, asIntOf, hw, hm0, hmb', n1, n3, typeInfo, hi, n2, Question.forced, ho, h0, this, hnl, hz', newRow, q, hmx]
        · simp [Builtin.append_, run_underlying hu, hsz, run_underlying hd, asInt, asIntOf, hw, hm0, hmb', n1, n3, typeInfo, hi, n2, Question.forced, ho, h0, hnl, hz', newRow, q, hmx]
      have hn := hnew w.drew rfl
      rcases hd with hd | ⟨e', hd⟩ <;> simp [Builtin.append_, run_underlying hu, hsz, run_underlying hd, hlen, n1, typeInfo, hi, hb0, n2, Question.forced, ho, hn, hz', newRow, q]

end Go.Lift
/- Appending and reslicing: soundness. -/
namespace Go.Lift
open Go

theorem alloc_heap (w : World) (o : Obj) : (w.alloc o).heap = w.heap.push o := rfl

theorem Cells.row {ok : Nat → Prop} {w : World} {t : Ty} {xs : List t.den} {cs : List Value} (h : Cells ok w t xs cs) (pre post : List Value) :
    ∀ i (hi : i < xs.length), t.rd ok w xs[i] (fun j => (pre ++ cs ++ post).toArray[pre.length + i * t.sz + j]?) := by
  intro i hi
  refine Ty.rd_congr _ _ _ _ (fun j hj => ?_) (h.rd i hi)
  have := mul_lt_of hi hj
  rw [List.getElem?_toArray, List.append_assoc, List.getElem?_append_right (by omega), List.getElem?_append_left (by rw [h.len]; omega)]
  congr 1
  omega

theorem appendV_sound {cx : Cx} {φ : Phi} {st : St} {a : Act} {w : World} (R : RelF cx φ st a w) {n : Nat} (hf : FreshN cx st n) {sT xT ty : TypeId} {s x v : SV} {vc : List Prop} {e : Eff} {S X : Value}
    (h : appendV cx.P st.regs sT xT s x n = some (vc, v, e)) (hvc : ∀ p ∈ vc, p) (hs : SVRel st.regs φ (okOf st.regs φ) w s S) (hx : SVRel st.regs φ (okOf st.regs φ) w x X) :
    ∃ V w' φ', (Builtin.append_ #[sT, xT] ty #[S, X]).run cx.P w = .ok V w' ∧ RelF cx φ' { st with regs := e.app st.regs } a w' ∧ SVRel (e.app st.regs) φ' (okOf (e.app st.regs) φ') w' v V := by
  unfold appendV at h
  split at h
  · rename_i e0 hu
    split at h
    · rename_i τ by_ hzt hby
      split at h
      · rename_i ps ys hsrc
        split at h
        · rename_i hb1
          obtain ⟨i, z, hi, hz, hsz, hzc, ha⟩ := (zty_spec hzt).ex
          have hbi : i.bytes = by_ := by simpa [bytesT, hi] using hby
          subst hbi
          have hxr : ∀ w' : World, w'.heap = w.heap → w'.os = w.os → w'.tape = w.tape → w'.output = w.output → RelF cx φ st a w' := fun w' h1 h2 h3 h4 => R.heap h1 h2 h3 h4
          have hzz : z.cells = τ.zero.toArray := by rw [← hzc]
          have hszz : z.cells.size = τ.sz := by rw [← Array.length_toList, hzc, τ.zero_length]
          have hvp : ∀ p ∈ ps, p := by
            intro p hp
            split at h
            · cases h; exact hvc p (List.mem_append_left _ hp)
            · split at h
              · split at h
                · cases h; exact hvc p (List.mem_append_left _ hp)
                · cases h
              · cases h
            · cases h
          obtain ⟨new, hnew, hN⟩ := source_sound R hsrc hvp hzz hx
          rw [← hsz] at hnew
          split at h
          · -- onto nothing
            cases h
            have hroom : ys.length * i.bytes ≤ 140737488355328 := hvc _ (by simp)
            have hS : S = .slice none 0 0 := hs
            subst hS
            obtain ⟨c1, c2⟩ := run_append_cases (P := cx.P) (w := w) (ty := ty) (base := none) (sLen := 0) (sCap := 0) (new := new) (old := []) hu hi hz (hszz.trans hsz.symm) hb1 hnew
              (fun w' _ => by simp [Builtin.firstCells]) (by simpa using hroom)
            rcases Nat.eq_zero_or_pos ys.length with h0 | h0
            · have hys : ys = [] := List.length_eq_zero_iff.1 h0
              subst hys
              have := c1 (by simp)
              refine ⟨_, _, setLoc φ n ⟨none, 0, 0⟩, by simpa [backTo] using this, ?_, ?_⟩
              · exact R.step none n (.row τ []) ⟨none, 0, 0⟩ (fun b hb => by cases hb) (fun b _ _ => rfl) (.inl hf.1) (fun l0 hl => (hf.2 l0 hl).elim)
                  ⟨Nat.le_refl _, rfl⟩ rfl rfl rfl (Nat.le_refl _)
              · exact sl_new (u := τ) (xs := []) (by rw [Eff.app, Eff.app, EffI.app, look_upd, if_pos rfl]) (by simp [setLoc, Loc.addr])
            · obtain ⟨cap, rest, w1, g1, g2, g3, g4, g5, g6, g7⟩ := c2 (by omega)
              have R1 := R.heap g3 g4 g5 g6
              have R2 := R1.new hf (.row τ ys) (([] : List Value).toArray ++ (new.toArray ++ rest.toArray)) e0 (0, 0) 0 cap (fun w' hw' => by
                rw [g3] at hw'
                refine ⟨by simpa using g1, ?_⟩
                rw [g3]
                refine ⟨_, e0, (0, 0), hw', thaw0 _, ?_, ?_⟩
                · have h1 : new.length = ys.length * τ.sz := hN.len
                  simp only [List.size_toArray, Array.size_append, List.length_nil, h1, g2, hszz, Nat.zero_add] at *
                  have := Nat.sub_mul cap ys.length τ.sz
                  have h3 : ys.length * τ.sz ≤ cap * τ.sz := Nat.mul_le_mul_right _ (by simpa using g1)
                  omega
                · have := hN.row [] rest
                  intro k hk
                  have h2 := this k hk
                  refine Ty.rd_mono (fun b o h1 h2 => ⟨h1, by rw [g3]; exact h2⟩) _ _ _ ?_
                  simpa using h2)
              refine ⟨_, _, setLoc φ n ⟨some w1.heap.size, 0, cap⟩, by rw [g7], ?_, ?_⟩
              · exact R2
              · exact sl_new (u := τ) (xs := ys) (by rw [Eff.app, Eff.app, EffI.app, look_upd, if_pos rfl]) (by simp [setLoc, Loc.addr, g3])
          · -- onto a row
            rename_i r
            split at h
            · rename_i τ' xs0 hl
              split at h
              · rename_i xs hcast
                cases h
                obtain ⟨e1, e2⟩ := castTy_some hcast
                cases e1
                have e2 : xs0 = xs := e2
                subst e2
                have hroom : (List.length xs0 + ys.length) * i.bytes ≤ 140737488355328 := hvc _ (by simp)
                have hS := hs _ _ hl
                subst hS
                have hrow : rowOf st.regs (.sl r) = some ⟨τ, xs0⟩ := by simp [rowOf, hl]
                obtain ⟨old, hold, hO⟩ := run_firstCells (P := cx.P) R hrow hs
                rw [← hsz] at hold
                obtain ⟨c1, c2⟩ := run_append_cases (P := cx.P) (w := w) (ty := ty) (base := (φ r).addr) (sLen := xs0.length) (sCap := (φ r).cap) (new := new) (old := old) hu hi hz (hszz.trans hsz.symm) hb1 hnew
                  hold hroom
                have hrg := R.rg r _ hl
                have hnn : new.length = ys.length * τ.sz := hN.len
                rcases Nat.lt_or_ge (φ r).cap (xs0.length + ys.length) with hgt | hle
                · -- it grows
                  obtain ⟨cap, rest, w1, g1, g2, g3, g4, g5, g6, g7⟩ := c2 hgt
                  have R1 := R.heap g3 g4 g5 g6
                  have hOo : old.length = xs0.length * τ.sz := hO.len
                  have R2 := R1.step (w' := w1.alloc (.cells (old.toArray ++ (new.toArray ++ rest.toArray)) e0)) (some r) n (.row τ (List.append xs0 ys)) ⟨some w1.heap.size, 0, cap⟩
                    (fun b hb => .inl (by cases hb; exact Nat.le_refl _)) (fun b hb _ => by rw [alloc_heap, Array.getElem?_push, if_neg (Nat.ne_of_lt hb)]) (.inl hf.1) (fun l0 hl => (hf.2 l0 hl).elim)
                    (by
                      refine ⟨by simpa using g1, ?_⟩
                      refine ⟨_, e0, (0, 0), by rw [alloc_heap, Array.getElem?_push, if_pos rfl], thaw0 _, ?_, ?_⟩
                      · have h3 : (xs0.length + ys.length) * τ.sz ≤ cap * τ.sz := Nat.mul_le_mul_right _ g1
                        have h4 := Nat.sub_mul cap (xs0.length + ys.length) τ.sz
                        rw [hszz] at g2
                        rw [Nat.add_mul] at h3 h4
                        simp only [List.size_toArray, Array.size_append, hOo, hnn, g2]
                        omega
                      · have := (hO.append hN).row [] rest
                        intro k hk
                        have h2 := this k hk
                        refine Ty.rd_mono (fun b o h1 h2 => ⟨h1, by rw [g3]; exact h2⟩) _ _ _ ?_
                        simpa using h2)
                    rfl rfl rfl (by rw [alloc_heap]; simp)
                  refine ⟨_, _, _, by rw [g7], R2, ?_⟩
                  exact sl_new (u := τ) (xs := List.append xs0 ys) (by rw [Eff.app, Eff.app, EffI.app, look_upd, if_pos rfl]) (by simp [setLoc, Loc.addr, g3])
                · -- there is room
                  have hrun := c1 hle
                  cases hbl : (φ r).blk with
                  | none =>
                    have h3 := hrg.2
                    simp only [hbl] at h3
                    have hx0 : xs0 = [] := List.length_eq_zero_iff.1 (by omega)
                    have hy0 : ys = [] := List.length_eq_zero_iff.1 (by omega)
                    have haddr : (φ r).addr = none := by simp [Loc.addr, hbl]
                    rw [haddr] at hrun ⊢
                    refine ⟨_, _, setLoc φ n (φ r), by simpa [backTo] using hrun, ?_, ?_⟩
                    · exact R.step (some r) n (.row τ (List.append xs0 ys)) (φ r) (fun b hb => by rw [hbl] at hb; cases hb) (fun b _ _ => rfl) (.inl hf.1) (fun l0 hl => (hf.2 l0 hl).elim)
                        (by refine ⟨by simp [hx0, hy0], ?_⟩; simp only [hbl]; exact h3) rfl rfl rfl (Nat.le_refl _)
                    · exact sl_new (u := τ) (xs := List.append xs0 ys) (by rw [Eff.app, Eff.app, EffI.app, look_upd, if_pos rfl]) (by simp [setLoc, haddr])
                  | some b =>
                    have h3 := hrg.2
                    simp only [hbl] at h3
                    obtain ⟨cs, ty0, fz, f1, f2, f3, f4⟩ := h3
                    have haddr : (φ r).addr = some ⟨b, (φ r).off, none⟩ := by simp [Loc.addr, hbl]
                    rw [haddr] at hrun ⊢
                    simp only [backTo, add_mk, hsz] at hrun
                    have hfit : (φ r).off + xs0.length * τ.sz + 0 + new.length ≤ cs.size := by
                      have h4 : (xs0.length + ys.length) * τ.sz ≤ (φ r).cap * τ.sz := Nat.mul_le_mul_right _ hle
                      rw [Nat.add_mul] at h4
                      omega
                    obtain ⟨w', k1, k2⟩ := run_storeCells_wrote (P := cx.P) (b := b) (o0 := (φ r).off + xs0.length * τ.sz) new 0 cs w f1 f2 hfit hN.one
                    rw [k1] at hrun
                    simp only [Result.andThen_ok, Nat.add_zero] at hrun k2
                    refine ⟨_, _, setLoc φ n (φ r), hrun, ?_, ?_⟩
                    · refine R.step (w' := w') (some r) n (.row τ (List.append xs0 ys)) (φ r) (fun b0 hb0 => .inr ⟨r, _, rfl, hl, hb0⟩) (fun b0 _ hne => k2.other b0 (fun e0 => hne (by rw [hbl, e0])))
                        (.inl hf.1) (fun l0 hl => (hf.2 l0 hl).elim) ?_ k2.os k2.tape k2.output (by rw [k2.size]; exact Nat.le_refl _)
                      refine ⟨by simpa using hle, ?_⟩
                      simp only [hbl]
                      refine ⟨_, ty0, fz, k2.at_, by rw [size_writeAt]; exact f2, by rw [size_writeAt]; exact f3, ?_⟩
                      intro k hk
                      have hk' : k < xs0.length + ys.length := by simpa using hk
                      by_cases hkx : k < xs0.length
                      · have e : (List.append xs0 ys)[k]'hk = xs0[k] := List.getElem_append_left hkx
                        rw [e]
                        refine Ty.rd_congr _ _ _ _ (fun j hj => ?_) (f4 k hkx)
                        have := mul_lt_of hkx hj
                        rw [get_writeAt _ _ _ _ (by omega), if_neg (by omega)]
                      · have hi' : k - xs0.length < ys.length := by omega
                        have e : (List.append xs0 ys)[k]'hk = ys[k - xs0.length] := List.getElem_append_right (by omega)
                        rw [e]
                        refine Ty.rd_congr _ _ _ _ (fun j hj => ?_) (hN.rd _ hi')
                        have hlt := mul_lt_of hi' hj
                        have hle2 : xs0.length * τ.sz ≤ k * τ.sz := Nat.mul_le_mul_right _ (by omega)
                        have hsub := Nat.sub_mul k xs0.length τ.sz
                        rw [get_writeAt _ _ _ _ (by omega), if_pos (by omega)]
                        congr 1
                        omega
                    · exact sl_new (u := τ) (xs := List.append xs0 ys) (by rw [Eff.app, Eff.app, EffI.app, look_upd, if_pos rfl]) (by simp [setLoc, haddr])
              · cases h
            · cases h
          · cases h
        · cases h
      · cases h
    · cases h
  · cases h

end Go.Lift
/- Reslicing, lengths, literals, parts, conversions: abstract, and that they tell what the machine does. -/
namespace Go.Lift
open Go

/-! ### lengths -/
def capV (P : Program) (t : TypeId) (x : SV) : Option SV :=
  match P.underlying t with
  | some (.slice _) => match x with
    | .nilsl => some (vI .i64 0)
    | _ => none
  | _ => none
theorem capV_sound {cx : Cx} {φ : Phi} {st : St} {w : World} {t ty : TypeId} {x v : SV} {X : Value}
    (h : capV cx.P t x = some v) (hx : SVRel st.regs φ (okOf st.regs φ) w x X) :
    ∃ V, (Builtin.cap_ #[t] ty #[X]).run cx.P w = .ok V w ∧ SVRel st.regs φ (okOf st.regs φ) w v V := by
  unfold capV at h
  split at h
  · rename_i e hu
    split at h
    · cases h
      have hX : X = .slice none 0 0 := hx
      subst hX
      exact ⟨_, by simp [Builtin.cap_, run_underlying hu, goInt], VRel.of_int _ _ _ _⟩
    · cases h
  · cases h

def lenV (P : Program) (rs : Regs) (t : TypeId) (x : SV) : Option SV :=
  match P.underlying t with
  | some .string => match x with
    | .val .str s => some (vI .i64 s.size)
    | _ => none
  | some (.slice _) => match x with
    | .nilsl => some (vI .i64 0)
    | x => match rowOf rs x with
      | some ⟨_, xs⟩ => some (vI .i64 xs.length)
      | none => none
  | _ => none
theorem lenV_sound {cx : Cx} {φ : Phi} {st : St} {a : Act} {w : World} (R : RelF cx φ st a w) {t ty : TypeId} {x v : SV} {X : Value}
    (h : lenV cx.P st.regs t x = some v) (hx : SVRel st.regs φ (okOf st.regs φ) w x X) :
    ∃ V, (Builtin.len_ #[t] ty #[X]).run cx.P w = .ok V w ∧ SVRel st.regs φ (okOf st.regs φ) w v V := by
  unfold lenV at h
  split at h
  · rename_i hu
    split at h
    · rename_i s
      cases h
      have eX : X = .string s := VRel.str_eq hx
      subst eX
      exact ⟨_, by simp [Builtin.len_, run_underlying hu, goInt], VRel.of_int _ _ _ _⟩
    · cases h
  · rename_i e hu
    split at h
    · cases h
      have hX : X = .slice none 0 0 := hx
      subst hX
      exact ⟨_, by simp [Builtin.len_, run_underlying hu, goInt], VRel.of_int _ _ _ _⟩
    · split at h
      · rename_i u xs hr
        cases h
        obtain ⟨ad, cap, rfl, _, _⟩ := rowOf_sound R hr hx
        exact ⟨_, by simp [Builtin.len_, run_underlying hu, goInt], VRel.of_int _ _ _ _⟩
      · cases h
  · cases h

/-! ### reslicing -/
def optI : Option SV → Option (Option Int)
  | none => some none
  | some (.val (.int _) i) => some (some i)
  | _ => none

/-- What the bounds are, and what they must be; n: the length. -/
def cutVC (n : Int) (lo hi mx : Option Int) : List Prop :=
  let l := lo.getD 0
  let h := hi.getD n
  match mx with
  | none => [0 ≤ l, l ≤ h, h ≤ n]
  | some m => [0 ≤ l, l ≤ h, h ≤ m, m ≤ n]

def OptV (o : Option Int) (v : Option Value) : Prop :=
  match o, v with
  | none, none => True
  | some i, some v => ∃ k, v = .int k i
  | _, _ => False
theorem optI_sound {rs : Regs} {φ : Phi} {ok : Nat → Prop} {w : World} {x : Option SV} {o : Option Int} {X : Option Value} (h : optI x = some o)
    (hx : match x, X with | none, none => True | some x, some X => SVRel rs φ ok w x X | _, _ => False) : OptV o X := by
  unfold optI at h
  split at h
  · cases h
    cases X with
    | none => trivial
    | some X => exact hx.elim
  · rename_i k i
    cases h
    cases X with
    | none => exact hx.elim
    | some X => exact ⟨k, VRel.int_eq hx⟩
  · cases h

theorem run_bounds {P : Program} {w : World} {b : Bool} {len cap : Nat} {lo hi mx : Option Int} {Lo Hi Mx : Option Value} (h1 : OptV lo Lo) (h2 : OptV hi Hi) (h3 : OptV mx Mx)
    (hmx : mx.isSome = true → hi.isSome = true) (hlc : len ≤ cap) (hvc : ∀ p ∈ cutVC (len : Int) lo hi mx, p) :
    (Instr.sliceBounds b len cap Lo Hi Mx).run P w = .ok ((lo.getD 0).toNat, (hi.getD (len : Int)).toNat, (mx.getD (cap : Int)).toNat) w := by
  have hb : ∀ (k : IntKind) (i : Int) (y : Nat) (c : BoundsCode), 0 ≤ i → i ≤ (y : Int) → (Instr.sliceBound (.int k i) y c).run P w = .ok i.toNat w := by
    intro k i y c g0 g1
    simp [Instr.sliceBound, asIntOf, g0, g1]
  cases mx with
  | none =>
    cases Mx with
    | some _ => exact h3.elim
    | none =>
      have v0 := hvc _ (List.mem_cons_self ..)
      have v1 := hvc _ (List.mem_cons_of_mem _ (List.mem_cons_self ..))
      have v2 := hvc _ (List.mem_cons_of_mem _ (List.mem_cons_of_mem _ (List.mem_cons_self ..)))
      cases hi with
      | none =>
        cases Hi with
        | some _ => exact h2.elim
        | none =>
          cases lo with
          | none =>
            cases Lo with
            | some _ => exact h1.elim
            | none => simp [Instr.sliceBounds]
          | some l =>
            cases Lo with
            | none => exact h1.elim
            | some L =>
              obtain ⟨k, rfl⟩ := h1
              simp only [Option.getD_some, Option.getD_none] at v0 v1 v2
              simp [Instr.sliceBounds, hb k l len _ v0 v1]
      | some h =>
        cases Hi with
        | none => exact h2.elim
        | some H =>
          obtain ⟨kh, rfl⟩ := h2
          simp only [Option.getD_some] at v1 v2
          have e0 : (0 : Int) ≤ h := Int.le_trans v0 v1
          have e1 : h ≤ (cap : Int) := by omega
          have e2 : (h.toNat : Int) = h := Int.toNat_of_nonneg e0
          cases lo with
          | none =>
            cases Lo with
            | some _ => exact h1.elim
            | none => simp [Instr.sliceBounds, hb kh h cap _ e0 e1]
          | some l =>
            cases Lo with
            | none => exact h1.elim
            | some L =>
              obtain ⟨k, rfl⟩ := h1
              simp only [Option.getD_some] at v0 v1
              simp [Instr.sliceBounds, hb kh h cap _ e0 e1, hb k l h.toNat _ v0 (by omega)]
  | some m =>
    cases Mx with
    | none => exact h3.elim
    | some M =>
      obtain ⟨km, rfl⟩ := h3
      cases hi with
      | none => simp at hmx
      | some h =>
        cases Hi with
        | none => exact h2.elim
        | some H =>
          obtain ⟨kh, rfl⟩ := h2
          have v0 := hvc _ (List.mem_cons_self ..)
          have v1 := hvc _ (List.mem_cons_of_mem _ (List.mem_cons_self ..))
          have v2 := hvc _ (List.mem_cons_of_mem _ (List.mem_cons_of_mem _ (List.mem_cons_self ..)))
          have v3 := hvc _ (List.mem_cons_of_mem _ (List.mem_cons_of_mem _ (List.mem_cons_of_mem _ (List.mem_cons_self ..))))
          simp only [Option.getD_some] at v0 v1 v2 v3
          have e0 : (0 : Int) ≤ h := Int.le_trans v0 v1
          have e1 : (0 : Int) ≤ m := Int.le_trans e0 v2
          have e2 : (h.toNat : Int) = h := Int.toNat_of_nonneg e0
          have e3 : (m.toNat : Int) = m := Int.toNat_of_nonneg e1
          cases lo with
          | none =>
            cases Lo with
            | some _ => exact h1.elim
            | none => simp [Instr.sliceBounds, hb km m cap _ e1 (by omega), hb kh h m.toNat _ e0 (by omega)]
          | some l =>
            cases Lo with
            | none => exact h1.elim
            | some L =>
              obtain ⟨k, rfl⟩ := h1
              simp only [Option.getD_some] at v0 v1
              simp [Instr.sliceBounds, hb km m cap _ e1 (by omega), hb kh h m.toNat _ e0 (by omega), hb k l h.toNat _ v0 (by omega)]

def cutL {α : Type} (xs : List α) (lo hi : Option Int) : List α := (xs.take (hi.getD (xs.length : Int)).toNat).drop (lo.getD 0).toNat

def sliceV (P : Program) (rs : Regs) (t : TypeId) (x : SV) (lo hi mx : Option SV) (n : Nat) : Option (List Prop × SV × Eff) :=
  match optI lo, optI hi, optI mx with
  | some lo, some hi, some mx =>
    if mx.isSome = true ∧ hi.isSome = false then none else
    match P.underlying t with
    | some .string => match x with
      | .val .str s => match mx with
        | none => some (cutVC (s.size : Int) lo hi none, .val .str (s.extract (lo.getD 0).toNat (hi.getD (s.size : Int)).toNat), [])
        | some _ => none
      | _ => none
    | some (.slice e) => match x with
      | .val (.ro τ) xs => if sizeT P e = some τ.sz then some (cutVC (List.length xs : Int) lo hi mx, .val (.ro τ) (cutL (α := τ.den) xs lo hi), []) else none
      | .sl r => match look rs r with
        | some (.row τ xs) => if sizeT P e = some τ.sz then some (cutVC (xs.length : Int) lo hi mx, .sl n, [.set (some r) n (.row τ (cutL xs lo hi))]) else none
        | _ => none
      | .nilsl => match sizeT P e with
        | some _ => some (cutVC ((0 : Nat) : Int) lo hi mx, .nilsl, [])
        | none => none
      | _ => none
    | some (.array m e) => match x with
      | .addr r [] => match look rs r with
        | some (.box (.arr m' τ) xs) => if sizeT P e = some τ.sz ∧ m = m' then some (cutVC (m : Int) lo hi mx, .sl n, [.set (some r) n (.row τ (cutL (α := τ.den) xs lo hi))]) else none
        | _ => none
      | _ => none
    | _ => none
  | _, _, _ => none

theorem cutL_get {α : Type} {xs : List α} {lo hi : Option Int} (i : Nat) (h : i < (cutL xs lo hi).length) : ∃ h' : (lo.getD 0).toNat + i < xs.length, (cutL xs lo hi)[i] = xs[(lo.getD 0).toNat + i] := by
  simp only [cutL, List.length_drop, List.length_take] at h
  refine ⟨by omega, ?_⟩
  simp [cutL]
theorem cutVC_bounds {n : Nat} {lo hi mx : Option Int} (h : ∀ p ∈ cutVC (n : Int) lo hi mx, p) : 0 ≤ lo.getD 0 ∧ lo.getD 0 ≤ hi.getD (n : Int) ∧ hi.getD (n : Int) ≤ (n : Int) ∧ (∀ m, mx = some m → hi.getD (n : Int) ≤ m ∧ m ≤ (n : Int)) := by
  cases mx with
  | none =>
    have v0 := h _ (List.mem_cons_self ..)
    have v1 := h _ (List.mem_cons_of_mem _ (List.mem_cons_self ..))
    have v2 := h _ (List.mem_cons_of_mem _ (List.mem_cons_of_mem _ (List.mem_cons_self ..)))
    exact ⟨v0, v1, v2, fun m hm => by cases hm⟩
  | some m =>
    have v0 := h _ (List.mem_cons_self ..)
    have v1 := h _ (List.mem_cons_of_mem _ (List.mem_cons_self ..))
    have v2 := h _ (List.mem_cons_of_mem _ (List.mem_cons_of_mem _ (List.mem_cons_self ..)))
    have v3 := h _ (List.mem_cons_of_mem _ (List.mem_cons_of_mem _ (List.mem_cons_of_mem _ (List.mem_cons_self ..))))
    exact ⟨v0, v1, Int.le_trans v2 v3, fun m' hm => by cases hm; exact ⟨v2, v3⟩⟩

/-- The machine's reslice of a slice of which the block is known. -/
theorem run_slice_cut {P : Program} {w : World} {t e : TypeId} {sz : Nat} {ad : Option Addr} {len cap : Nat} {lo hi mx : Option Int} {Lo Hi Mx : Option Value}
    (hu : P.underlying t = some (.slice e)) (hs : sizeT P e = some sz) (h1 : OptV lo Lo) (h2 : OptV hi Hi) (h3 : OptV mx Mx)
    (hmx : mx.isSome = true → hi.isSome = true) (hlc : len ≤ cap) (hvc : ∀ p ∈ cutVC (len : Int) lo hi mx, p) :
    (Instr.sliceAt t (.slice ad len cap) Lo Hi Mx).run P w =
      .ok (.slice (if (mx.getD (cap : Int)).toNat = (lo.getD 0).toNat then ad else ad.map (·.add ((lo.getD 0).toNat * sz))) ((hi.getD (len : Int)).toNat - (lo.getD 0).toNat) ((mx.getD (cap : Int)).toNat - (lo.getD 0).toNat)) w := by
  have hb := run_bounds (P := P) (w := w) (b := true) h1 h2 h3 hmx hlc hvc
  simp [Instr.sliceAt, run_underlying hu, Instr.slice, hb, run_sizeOf hs]

theorem sliceV_sound {cx : Cx} {φ : Phi} {st : St} {a : Act} {w : World} (R : RelF cx φ st a w) {n : Nat} (hf : FreshN cx st n) {t : TypeId} {x v : SV} {lo hi mx : Option SV} {vc : List Prop} {e : Eff} {X : Value} {Lo Hi Mx : Option Value}
    (h : sliceV cx.P st.regs t x lo hi mx n = some (vc, v, e)) (hvc : ∀ p ∈ vc, p) (hx : SVRel st.regs φ (okOf st.regs φ) w x X)
    (h1 : ∀ o, optI lo = some o → OptV o Lo) (h2 : ∀ o, optI hi = some o → OptV o Hi) (h3 : ∀ o, optI mx = some o → OptV o Mx) :
    ∃ V φ', (Instr.sliceAt t X Lo Hi Mx).run cx.P w = .ok V w ∧ RelF cx φ' { st with regs := e.app st.regs } a w ∧ SVRel (e.app st.regs) φ' (okOf (e.app st.regs) φ') w v V := by
  unfold sliceV at h
  split at h
  · rename_i lo hi mx el eh em
    have h1 := h1 _ el
    have h2 := h2 _ eh
    have h3 := h3 _ em
    split at h
    · cases h
    · rename_i hnm
      have hmx : mx.isSome = true → hi.isSome = true := by
        intro hm
        cases hh : hi.isSome with
        | true => rfl
        | false => exact (hnm ⟨hm, hh⟩).elim
      split at h
      · rename_i hu
        split at h
        · rename_i s
          split at h
          · cases h
            have eX : X = .string s := VRel.str_eq hx
            subst eX
            have hM : Mx = none := by
              cases Mx with
              | none => rfl
              | some _ => exact h3.elim
            subst hM
            have hb := run_bounds (P := cx.P) (w := w) (b := false) h1 h2 h3 hmx (Nat.le_refl _) hvc
            refine ⟨_, φ, ?_, R, VRel.of_str _ _ _⟩
            simp only [Instr.sliceAt, run_underlying hu, Instr.slice, Sem.run_bind, Result.andThen_ok]
            simp [hb]
          · cases h
        · cases h
      · rename_i e0 hu
        split at h
        · rename_i τ xs
          split at h
          · rename_i hs
            cases h
            have hV : VRel _ _ _ _ _ := hx
            obtain ⟨a0, cap, g0, g1, g2⟩ := hV.1
            rw [hV.cells_one rfl] at g0
            have hX : X = .slice a0 (List.length xs) cap := by simpa using g0
            subst hX
            have hrun := run_slice_cut (P := cx.P) (w := w) (ad := a0) (cap := cap) hu hs h1 h2 h3 hmx g1 hvc
            obtain ⟨b0, b1, b2, b3⟩ := cutVC_bounds hvc
            have hlen : (cutL (α := τ.den) xs lo hi).length = (hi.getD (List.length xs : Int)).toNat - (lo.getD 0).toNat := by
              simp only [cutL, List.length_drop, List.length_take]; omega
            have hcap : (hi.getD (List.length xs : Int)).toNat ≤ (mx.getD (cap : Int)).toNat := by
              cases mx with
              | none => simp only [Option.getD_none]; omega
              | some m => have := (b3 m rfl).1; simp only [Option.getD_some]; omega
            refine ⟨_, φ, hrun, R, ⟨⟨_, _, by rw [← hlen]; rfl, by rw [hlen]; omega, ?_⟩, rfl, rfl⟩⟩
            rcases Nat.eq_zero_or_pos (cutL (α := τ.den) xs lo hi).length with hz | hz
            · exact .inl (List.length_eq_zero_iff.1 hz)
            · right
              rcases g2 with g2 | ⟨b, off, cs, ty, fz, f1, f2, f3, f4⟩
              · exfalso
                have hl0 : List.length xs = 0 := by rw [g2]; rfl
                omega
              · subst f1
                have hne : ¬ ((mx.getD (cap : Int)).toNat = (lo.getD 0).toNat) := by omega
                rw [if_neg hne]
                refine ⟨b, off + (lo.getD 0).toNat * τ.sz, cs, ty, fz, by simp [add_mk], f2, f3, fun i hi' => ?_⟩
                obtain ⟨hlt, e1⟩ := cutL_get (α := τ.den) i hi'
                rw [e1]
                refine Ty.rd_congr _ _ _ _ (fun j hj => ?_) (f4 _ hlt)
                congr 1
                rw [Nat.add_mul]
                omega
          · cases h
        · rename_i r
          split at h
          · rename_i τ xs hl
            split at h
            · rename_i hs
              cases h
              have hX := hx _ _ hl
              subst hX
              have hrg := R.rg r _ hl
              have hxc : xs.length ≤ (φ r).cap := hrg.1
              have hrun := run_slice_cut (P := cx.P) (w := w) (ad := (φ r).addr) (cap := (φ r).cap) hu hs h1 h2 h3 hmx hxc hvc
              obtain ⟨b0, b1, b2, b3⟩ := cutVC_bounds hvc
              have hlen : (cutL xs lo hi).length = (hi.getD (xs.length : Int)).toNat - (lo.getD 0).toNat := by
                simp only [cutL, List.length_drop, List.length_take]; omega
              have hcap : (hi.getD (xs.length : Int)).toNat ≤ (mx.getD ((φ r).cap : Int)).toNat ∧ (mx.getD ((φ r).cap : Int)).toNat ≤ (φ r).cap := by
                cases mx with
                | none => simp only [Option.getD_none]; omega
                | some m => have := (b3 m rfl); simp only [Option.getD_some]; omega
              have h3' := hrg.2
              by_cases hne : (mx.getD ((φ r).cap : Int)).toNat = (lo.getD 0).toNat
              · rw [if_pos hne] at hrun
                refine ⟨_, setLoc φ n ⟨(φ r).blk, (φ r).off, (mx.getD ((φ r).cap : Int)).toNat - (lo.getD 0).toNat⟩, hrun, ?_, ?_⟩
                · refine R.step (w' := w) (some r) n (.row τ (cutL xs lo hi)) _ (fun b hb => .inr ⟨r, _, rfl, hl, hb⟩) (fun b _ _ => rfl) (.inl hf.1) (fun l0 hl => (hf.2 l0 hl).elim) ?_ rfl rfl rfl (Nat.le_refl _)
                  refine ⟨by show (cutL xs lo hi).length ≤ _; rw [hlen]; show _ ≤ (mx.getD ((φ r).cap : Int)).toNat - _; omega, ?_⟩
                  cases hbl : (φ r).blk with
                  | none => simp only [hbl] at h3' ⊢; omega
                  | some b =>
                    simp only [hbl] at h3' ⊢
                    obtain ⟨cs, ty, fz, f1, f2, f3, f4⟩ := h3'
                    refine ⟨cs, ty, fz, f1, f2, ?_, fun i hi' => ?_⟩
                    · rw [hne]; simp only [Nat.sub_self, Nat.zero_mul, Nat.add_zero]
                      have := Nat.zero_le ((φ r).cap * τ.sz); omega
                    · rw [hlen] at hi'; omega
                · exact sl_new (u := τ) (xs := cutL xs lo hi) (by rw [Eff.app, Eff.app, EffI.app, look_upd, if_pos rfl]) (by simp [setLoc, Loc.addr, hlen])
              · rw [if_neg hne] at hrun
                refine ⟨_, setLoc φ n ⟨(φ r).blk, (φ r).off + (lo.getD 0).toNat * τ.sz, (mx.getD ((φ r).cap : Int)).toNat - (lo.getD 0).toNat⟩, hrun, ?_, ?_⟩
                · refine R.step (w' := w) (some r) n (.row τ (cutL xs lo hi)) _ (fun b hb => .inr ⟨r, _, rfl, hl, hb⟩) (fun b _ _ => rfl) (.inl hf.1) (fun l0 hl => (hf.2 l0 hl).elim) ?_ rfl rfl rfl (Nat.le_refl _)
                  refine ⟨by show (cutL xs lo hi).length ≤ _; rw [hlen]; show _ ≤ (mx.getD ((φ r).cap : Int)).toNat - _; omega, ?_⟩
                  cases hbl : (φ r).blk with
                  | none => simp only [hbl] at h3' ⊢; omega
                  | some b =>
                    simp only [hbl] at h3' ⊢
                    obtain ⟨cs, ty, fz, f1, f2, f3, f4⟩ := h3'
                    refine ⟨cs, ty, fz, f1, f2, ?_, fun i hi' => ?_⟩
                    · have h4 : (mx.getD ((φ r).cap : Int)).toNat * τ.sz ≤ (φ r).cap * τ.sz := Nat.mul_le_mul_right _ hcap.2
                      have h5 : (lo.getD 0).toNat * τ.sz ≤ (mx.getD ((φ r).cap : Int)).toNat * τ.sz := Nat.mul_le_mul_right _ (by omega)
                      rw [Nat.sub_mul]
                      omega
                    · obtain ⟨hlt, e1⟩ := cutL_get i hi'
                      rw [e1]
                      refine Ty.rd_congr _ _ _ _ (fun j hj => ?_) (f4 _ hlt)
                      congr 1
                      rw [Nat.add_mul]
                      omega
                · refine sl_new (u := τ) (xs := cutL xs lo hi) (by rw [Eff.app, Eff.app, EffI.app, look_upd, if_pos rfl]) ?_
                  cases hbl : (φ r).blk <;> simp [setLoc, Loc.addr, hlen, hbl, add_mk]
            · cases h
          · cases h
        · split at h
          · rename_i sz hs
            cases h
            have hX : X = .slice none 0 0 := hx
            subst hX
            have hrun := run_slice_cut (P := cx.P) (w := w) (ad := none) (len := 0) (cap := 0) hu hs h1 h2 h3 hmx (Nat.le_refl _) hvc
            obtain ⟨b0, b1, b2, b3⟩ := cutVC_bounds hvc
            refine ⟨_, φ, hrun, R, ?_⟩
            have hm0 : (mx.getD ((0 : Nat) : Int)).toNat = 0 := by
              cases mx with
              | none => rfl
              | some m => have := (b3 m rfl); simp only [Option.getD_some]; omega
            show _ = _
            rw [hm0, show (hi.getD ((0 : Nat) : Int)).toNat = 0 from by omega, show (lo.getD 0).toNat = 0 from by omega]
            simp
          · cases h
        · cases h
      · rename_i m e0 hu
        split at h
        · rename_i r
          split at h
          · rename_i m' τ xs hl
            split at h
            · rename_i hc
              obtain ⟨hs, rfl⟩ := hc
              cases h
              obtain ⟨b, g1, g2, g3⟩ := hx _ hl
              simp only [poff] at g3
              subst g3
              obtain ⟨f0, b', cs, ty, fz, f1, f2, f3, f4, f5⟩ := R.rg r _ hl
              rw [g1] at f1; cases f1
              have hb := run_bounds (P := cx.P) (w := w) (b := false) h1 h2 h3 hmx (Nat.le_refl m) hvc
              obtain ⟨b0, b1, b2, b3⟩ := cutVC_bounds hvc
              have hxl : List.length xs = m := f5.1
              have hlen : (cutL (α := τ.den) xs lo hi).length = (hi.getD (m : Int)).toNat - (lo.getD 0).toNat := by
                simp only [cutL, List.length_drop, List.length_take, hxl]; omega
              have hcap : (hi.getD (m : Int)).toNat ≤ (mx.getD (m : Int)).toNat ∧ (mx.getD (m : Int)).toNat ≤ m := by
                cases mx with
                | none => simp only [Option.getD_none]; omega
                | some k => have := (b3 k rfl); simp only [Option.getD_some]; omega
              have hsz : cs.size = m * τ.sz := f4
              have hrun : (Instr.sliceAt t (.pointer (some ⟨b, 0, none⟩)) Lo Hi Mx).run cx.P w =
                  .ok (.slice (some ⟨b, if (mx.getD (m : Int)).toNat = (lo.getD 0).toNat then 0 else (lo.getD 0).toNat * τ.sz, none⟩) ((hi.getD (m : Int)).toNat - (lo.getD 0).toNat) ((mx.getD (m : Int)).toNat - (lo.getD 0).toNat)) w := by
                simp only [Instr.sliceAt, run_underlying hu, Sem.run_bind, Result.andThen_ok, Instr.sureAddr, Sem.run_pure, hb, run_sizeOf hs]
                split <;> simp [add_mk]
              refine ⟨_, setLoc φ n ⟨some b, if (mx.getD (m : Int)).toNat = (lo.getD 0).toNat then 0 else (lo.getD 0).toNat * τ.sz, (mx.getD (m : Int)).toNat - (lo.getD 0).toNat⟩, hrun, ?_, ?_⟩
              · refine R.step (w' := w) (some r) n (.row τ (cutL (α := τ.den) xs lo hi)) _ (fun b0 hb0 => .inr ⟨r, _, rfl, hl, by cases hb0; exact g1⟩) (fun b _ _ => rfl) (.inl hf.1) (fun l0 hl => (hf.2 l0 hl).elim) ?_ rfl rfl rfl (Nat.le_refl _)
                refine ⟨by show (cutL (α := τ.den) xs lo hi).length ≤ _; rw [hlen]; show _ ≤ (mx.getD (m : Int)).toNat - _; omega, ?_⟩
                refine ⟨cs, ty, fz, f2, f3, ?_, fun i hi' => ?_⟩
                · have h4 : (mx.getD (m : Int)).toNat * τ.sz ≤ m * τ.sz := Nat.mul_le_mul_right _ hcap.2
                  have h5 : (lo.getD 0).toNat * τ.sz ≤ (mx.getD (m : Int)).toNat * τ.sz := Nat.mul_le_mul_right _ (by omega)
                  have key : ∀ A B C : Nat, A ≤ B → B ≤ C → A + (B - A) ≤ C ∧ 0 + (B - A) ≤ C := by intro A B C h1 h2; omega
                  show (if _ then 0 else _) + _ ≤ _
                  rw [Nat.sub_mul, hsz]
                  split
                  · exact (key _ _ _ h5 h4).2
                  · exact (key _ _ _ h5 h4).1
                · have hi2 := hi'
                  rw [hlen] at hi2
                  rw [if_neg (by omega)]
                  obtain ⟨hlt, e1⟩ := cutL_get (α := τ.den) i hi'
                  rw [e1]
                  refine Ty.rd_congr _ _ _ _ (fun j hj => ?_) (f5.2 _ hlt)
                  congr 1
                  rw [Nat.add_mul]
              · exact sl_new (u := τ) (xs := cutL (α := τ.den) xs lo hi) (by rw [Eff.app, Eff.app, EffI.app, look_upd, if_pos rfl]) (by simp [setLoc, Loc.addr, hlen])
            · cases h
          · cases h
        · cases h
      · cases h
  · cases h

end Go.Lift
/- Literals of structs, arrays and slices, parts of values, conversions: abstract, and that they tell what the machine does. -/
namespace Go.Lift
open Go

/-! ### parts of values -/
theorem run_part_rd {P : Program} {ok : Nat → Prop} {w : World} {t : TypeId} {u : Ty} {y : u.den} {cs : Array Value} {o : Nat} (hfit : fits P t u = true)
    (hr : u.rd ok w y (fun j => cs[o + j]?)) : ∃ V, (part t cs o).run P w = .ok V w ∧ VRel ok w u y V := by
  have hcell := Ty.rd_cell u y _ hr
  have hagg := fits_agg hfit
  cases hu : u.agg with
  | true =>
    rw [hu] at hagg
    refine ⟨.agg (cs.extract o (o + u.sz)), by simp [part, run_isAgg hagg, run_sizeOf (fits_size hfit)], ?_⟩
    have hsize : u.sz = 0 ∨ o + u.sz ≤ cs.size := by
      rcases Nat.eq_zero_or_pos u.sz with h0 | h0
      · exact .inl h0
      · obtain ⟨v, hv, _⟩ := hcell (u.sz - 1) (by omega)
        have hv' : cs[o + (u.sz - 1)]? = some v := hv
        have := (Array.getElem?_eq_some_iff.1 hv').1
        omega
    have hex : (cs.extract o (o + u.sz)).size = u.sz := by
      rw [Array.size_extract]
      rcases hsize with h0 | h0
      · rw [h0]; omega
      · omega
    refine VRel.of_cells hr hu _ hex (fun j hj => ?_)
    rw [Array.getElem?_extract]
    rw [if_pos (by omega)]
  | false =>
    rw [hu] at hagg
    obtain ⟨v, hv, _⟩ := hcell 0 (by rw [Ty.sz_one hu]; omega)
    have hv' : cs[o]? = some v := by simpa using hv
    exact ⟨v, by simp [part, run_isAgg hagg, hv'], VRel.of_cell hr hu v hv⟩

def fieldV (P : Program) (t : TypeId) (x : SV) (k : Nat) : Option SV :=
  match fieldOf P t k with
  | none => none
  | some (ft, off) => match x with
    | .val t x => match pty t (fpath k) with
      | some u => if fits P ft u = true ∧ poff t (fpath k) = off ∧ t.agg = true then (pget t x (fpath k) u).map (fun y => .val u y) else none
      | none => none
    | _ => none
theorem fieldV_sound {P : Program} {rs : Regs} {φ : Phi} {ok : Nat → Prop} {w : World} {t : TypeId} {k : Nat} {x v : SV} {X : Value}
    (h : fieldV P t x k = some v) (hx : SVRel rs φ ok w x X) : ∃ V, (Instr.field t X k).run P w = .ok V w ∧ SVRel rs φ ok w v V := by
  unfold fieldV at h
  split at h
  · cases h
  · rename_i ft off hfo
    split at h
    · rename_i t' x
      split at h
      · rename_i u hp
        split at h
        · rename_i hc
          obtain ⟨hfit, hoff, hagg⟩ := hc
          rw [Option.map_eq_some_iff] at h
          obtain ⟨y, hy, rfl⟩ := h
          have hV : VRel _ _ _ _ _ := hx
          obtain ⟨cs, hcs⟩ : ∃ cs, X = .agg cs := by
            have := hV.2.2
            rw [hagg] at this
            cases X <;> simp [Value.isAgg] at this
            exact ⟨_, rfl⟩
          subst hcs
          have hr := rd_pget _ _ _ _ _ _ hV.1 (pok_fpath k t' u hp) hy
          rw [hoff] at hr
          obtain ⟨V, e1, e2⟩ := run_part_rd (P := P) (cs := cs) hfit hr
          refine ⟨V, ?_, e2⟩
          unfold fieldOf at hfo
          split at hfo
          · rename_i fs hu
            rw [Option.map_eq_some_iff] at hfo
            obtain ⟨f, hf, e⟩ := hfo
            cases e
            simp [Instr.field, run_underlying hu, hf, asAgg, e1]
          · cases hfo
        · cases h
      · cases h
    · cases h

def indexV (P : Program) (t : TypeId) (x i : SV) : Option (List Prop × SV) :=
  match i with
  | .val (.int _) i =>
    match P.underlying t, x with
    | some .string, .val .str s => some ([0 ≤ i, i < (s.size : Int)], vI .u8 ((strBytes s).getD i.toNat 0))
    | some (.array m e), .val (.arr m' τ) xs => if fits P e τ = true ∧ m = m' then some ([0 ≤ i, i < (m : Int)], .val τ (List.getD xs i.toNat τ.dflt)) else none
    | _, _ => none
  | _ => none
theorem indexV_sound {P : Program} {rs : Regs} {φ : Phi} {ok : Nat → Prop} {w : World} {t : TypeId} {x i v : SV} {vc : List Prop} {X I : Value}
    (h : indexV P t x i = some (vc, v)) (hvc : ∀ p ∈ vc, p) (hx : SVRel rs φ ok w x X) (hi : SVRel rs φ ok w i I) : ∃ V, (Instr.index t X I).run P w = .ok V w ∧ SVRel rs φ ok w v V := by
  unfold indexV at h
  split at h
  · rename_i k n
    have eI : I = .int k n := VRel.int_eq hi
    subst eI
    split at h
    · rename_i s hu
      cases h
      have eX : X = .string s := VRel.str_eq hx
      subst eX
      have h0 : @LE.le Int _ 0 n := hvc _ (by simp)
      have h1 : @LT.lt Int _ n (s.size : Int) := hvc _ (by simp)
      have h2 : Int.toNat n < s.size := by omega
      refine ⟨.int .u8 (s[Int.toNat n]).toNat, ?_, ?_⟩
      · simp only [Instr.index, asIntOf, Sem.run_bind, Sem.run_pure, Result.andThen_ok, run_underlying hu]
        rw [if_pos h0, getElem?_pos s _ h2]
        rfl
      · have e : (strBytes s).getD (Int.toNat n) 0 = ((s[Int.toNat n]).toNat : Int) := by
          have h3 : Int.toNat n < s.data.toList.length := by rw [Array.length_toList]; exact h2
          simp only [strBytes, List.getD_eq_getElem?_getD, List.getElem?_map, List.getElem?_eq_getElem h3, Option.map_some, Option.getD_some]
          rfl
        rw [e]
        exact VRel.of_int _ _ _ _
    · rename_i m e m' τ xs hu
      split at h
      · rename_i hc
        obtain ⟨hfit, rfl⟩ := hc
        cases h
        have h0 : @LE.le Int _ 0 n := hvc _ (by simp)
        have h1 : @LT.lt Int _ n (m : Int) := hvc _ (by simp)
        have hV : VRel _ _ _ _ _ := hx
        obtain ⟨cs, hcs⟩ : ∃ cs, X = .agg cs := by
          have := hV.2.2
          cases X <;> simp [Value.isAgg, Ty.agg] at this
          exact ⟨_, rfl⟩
        subst hcs
        have hl := hV.1.1
        have hi' : Int.toNat n < List.length xs := by omega
        have e : List.getD xs (Int.toNat n) τ.dflt = xs[Int.toNat n] := by simp [List.getD, List.getElem?_eq_getElem hi']
        have hr := hV.1.2 (Int.toNat n) hi'
        obtain ⟨V, e1, e2⟩ := run_part_rd (P := P) (cs := cs) (o := Int.toNat n * τ.sz) hfit hr
        refine ⟨V, ?_, by rw [e]; exact e2⟩
        simp [Instr.index, asIntOf, run_underlying hu, h0, h1, run_sizeOf (fits_size hfit), e1]
      · cases h
    · cases h
  · cases h

/-! ### conversions -/
def convV (P : Program) (src dst : TypeId) (x : SV) : Option SV :=
  match P.underlying dst, x with
  | some (.int k), .val (.int _) n => if (P.underlying src).isSome = true then some (vI k (k.wrap n)) else none
  | some .string, .val .str s => if P.underlying src matches some .string then some (.val .str s) else none
  | _, _ => none
theorem convV_sound {P : Program} {rs : Regs} {φ : Phi} {ok : Nat → Prop} {w : World} {src dst : TypeId} {x v : SV} {X : Value}
    (h : convV P src dst x = some v) (hx : SVRel rs φ ok w x X) : ∃ V, (convert src dst X).run P w = .ok V w ∧ SVRel rs φ ok w v V := by
  unfold convV at h
  split at h
  · rename_i k k' n hd
    split at h
    · rename_i hs
      cases h
      have eX : X = .int k' n := VRel.int_eq hx
      subst eX
      obtain ⟨d, hs⟩ := Option.isSome_iff_exists.1 hs
      exact ⟨_, by simp [convert, run_underlying hd, run_underlying hs, Conv.intToInt], VRel.of_int _ _ _ _⟩
    · cases h
  · rename_i s hd
    split at h
    · rename_i hm
      cases h
      have eX : X = .string s := VRel.str_eq hx
      subst eX
      have hs : P.underlying src = some .string := by
        revert hm
        cases P.underlying src with
        | none => simp
        | some d => cases d <;> simp
      exact ⟨_, by simp [convert, run_underlying hd, run_underlying hs], VRel.of_str _ _ _⟩
    · cases h
  · cases h

/-- string(b) and []byte(s). -/
def strOfV (P : Program) (rs : Regs) (src dst : TypeId) (x : SV) : Option SV :=
  match P.underlying dst, P.underlying src with
  | some .string, some (.slice e) => match P.underlying e with
    | some (.int .u8) => match x with
      | .nilsl => some (vS ByteArray.empty)
      | x => match rowOf rs x with
        | some ⟨.int .u8, xs⟩ => some (vS (strOfNums xs))
        | _ => none
    | _ => none
  | _, _ => none
theorem strOfV_sound {cx : Cx} {φ : Phi} {st : St} {a : Act} {w : World} (R : RelF cx φ st a w) {src dst : TypeId} {x v : SV} {X : Value}
    (h : strOfV cx.P st.regs src dst x = some v) (hx : SVRel st.regs φ (okOf st.regs φ) w x X) : ∃ V, (convert src dst X).run cx.P w = .ok V w ∧ SVRel st.regs φ (okOf st.regs φ) w v V := by
  unfold strOfV at h
  split at h
  · rename_i e hd hs
    split at h
    · rename_i he
      split at h
      · cases h
        have hX : X = .slice none 0 0 := hx
        subst hX
        exact ⟨_, run_convert_bytes_nil w src e hs he 0 0 dst hd, VRel.of_str _ _ _⟩
      · split at h
        · rename_i xs hr
          cases h
          obtain ⟨ad, cap, rfl, _, h2⟩ := rowOf_sound R hr hx
          rcases h2 with h2 | ⟨b, off, cs, ty, fz, e1, e2, e3⟩
          · have hl : List.length xs = 0 := by rw [h2]; rfl
            have hx0 : strOfNums xs = ByteArray.empty := by
              have : xs = [] := h2
              rw [this]; rfl
            refine ⟨.string ByteArray.empty, ?_, by rw [hx0]; exact VRel.of_str _ _ _⟩
            cases ad with
            | none => exact run_convert_bytes_nil w src e hs he _ cap dst hd
            | some ad =>
              rw [run_convert_bytes_string w src dst e _ _ cap hs he hd, run_bytesToString w _ _ cap [] (by rw [hl]; simp [loadCells, loadCellsFrom])]
              simp
          · subst e1
            refine ⟨_, run_convert_bytes_arg w src e hs he b off _ cap xs rfl (fun i hi => ?_) dst hd, VRel.of_str _ _ _⟩
            have := e3 i hi
            have h3 : cs[off + i * 1 + 0]? = some (.int .u8 xs[i]) := this
            have h4 : List.getD xs i (0 : Int) = xs[i] := by simp [List.getD, List.getElem?_eq_getElem hi]
            rw [h4]
            simp only [Nat.mul_one, Nat.add_zero] at h3
            simp [World.cell?, e2, h3]
        · cases h
    · cases h
  · cases h

def bytesV (P : Program) (src dst : TypeId) (x : SV) (n : Nat) : Option (SV × Eff) :=
  match P.underlying src, P.underlying dst with
  | some .string, some (.slice e) => match P.underlying e, x with
    | some (.int .u8), .val .str s => some (.sl n, [.set none n (.row (.int .u8) (strBytes s))])
    | _, _ => none
  | _, _ => none
theorem bytesV_sound {cx : Cx} {φ : Phi} {st : St} {a : Act} {w : World} (R : RelF cx φ st a w) {n : Nat} (hf : FreshN cx st n) {src dst : TypeId} {x v : SV} {e : Eff} {X : Value}
    (h : bytesV cx.P src dst x n = some (v, e)) (hx : SVRel st.regs φ (okOf st.regs φ) w x X) :
    ∃ V w' φ', (convert src dst X).run cx.P w = .ok V w' ∧ RelF cx φ' { st with regs := e.app st.regs } a w' ∧ SVRel (e.app st.regs) φ' (okOf (e.app st.regs) φ') w' v V := by
  unfold bytesV at h
  split at h
  · rename_i e0 hs hd
    split at h
    · rename_i s he
      cases h
      have eX : X = .string s := VRel.str_eq hx
      subst eX
      have hrun := run_bytes_of_string (P := cx.P) w src dst e0 s hs hd he
      have R1 := R.heap (w' := w.drew) rfl rfl rfl rfl
      have hcap : s.size ≤ grownCap w s.size 0 e0 := by
        show s.size ≤ s.size + _
        omega
      have R2 := R1.new hf (.row (.int .u8) (strBytes s)) (bytesRow s (grownCap w s.size 0 e0)) e0 ((bytesRow s (grownCap w s.size 0 e0)).size, (bytesRow s (grownCap w s.size 0 e0)).size + 1) 0 (grownCap w s.size 0 e0)
        (fun w' hw' => by
          have hsize : (bytesRow s (grownCap w s.size 0 e0)).size = grownCap w s.size 0 e0 := by
            have : s.data.size = s.size := rfl
            simp [bytesRow, this]; omega
          refine ⟨by simpa [strBytes] using hcap, ?_⟩
          refine ⟨_, e0, _, hw', ?_, ?_, fun i hi => ?_⟩
          · intro i hi
            have : ¬ (bytesRow s (grownCap w s.size 0 e0)).size ≤ i := by omega
            simp [this]
          · rw [hsize]; simp [Ty.sz]
          · have hi' : i < s.data.size := by simpa [strBytes] using hi
            show (bytesRow s _)[0 + i * 1 + 0]? = _
            simp only [Nat.mul_one, Nat.add_zero, Nat.zero_add, bytesRow, strBytes]
            rw [Array.getElem?_append_left (by simpa using hi'), Array.getElem?_map, Array.getElem?_eq_getElem hi', Option.map_some]
            simp)
      exact ⟨_, _, _, hrun, R2, sl_new (u := .int .u8) (xs := strBytes s) (by rw [Eff.app, Eff.app, EffI.app, look_upd, if_pos rfl]) (by simp [setLoc, Loc.addr, strBytes])⟩
    · cases h
  · cases h

/-! ### the lesser, the greater -/
def minV (greater : Bool) : List SV → Option SV
  | [] => none
  | x :: xs => xs.foldl (fun (m : Option SV) y => match m, y with
      | some (.val (.int k) a), .val (.int k') b => if k = k' then some (vI k (if greater then (if b > a then b else a) else (if b < a then b else a))) else none
      | _, _ => none) (match x with | .val (.int k) a => some (vI k a) | _ => none)

end Go.Lift
/- Literals, the lesser and the greater, equality: abstract, and that they tell what the machine does. -/
namespace Go.Lift
open Go

theorem zipIdx_write : ∀ (l : List Value) (k off : Nat) (cs : Array Value), (l.zipIdx k).foldl (fun cs (x : Value × Nat) => cs.setIfInBounds (off + x.2) x.1) cs = writeAt cs (off + k) l
  | [], _, _, _ => rfl
  | v :: r, k, off, cs => by
    simp only [List.zipIdx_cons, List.foldl_cons, writeAt]
    rw [zipIdx_write r (k + 1) off]
    rw [Nat.add_assoc]
theorem fill_step {place : Nat → Option (Nat × Nat)} {cells : Array Value} {i : Nat} {v : Value} {rest : List (Nat × Value)} {off size : Nat} (hp : place i = some (off, size)) (hs : v.cells.size = size) (hl : off + size ≤ cells.size) :
    Instr.fill place cells ((i, v) :: rest) = Instr.fill place (writeAt cells off v.cells.toList) rest := by
  have h1 : ¬ (v.cells.size ≠ size ∨ off + v.cells.size > cells.size) := by omega
  simp only [Instr.fill, hp]
  rw [if_neg (by simpa using h1)]
  congr 1
  rw [← Array.foldl_toList, Array.toList_zipIdx]
  exact zipIdx_write v.cells.toList 0 off cells

def inArr : Ty → Nat → Bool
  | .arr n _, i => decide (i < n)
  | _, _ => false
def ppath (arr : Bool) (i : Nat) : List Step := if arr then [.idx i] else fpath i

/-- The parts of a literal set, one by one. -/
def setParts (rs : Regs) (τ : Ty) (arr : Bool) (place : Nat → Option (Nat × Nat)) (x : τ.den) : List (Nat × SV) → Option (τ.den × List Nat)
  | [] => some (x, [])
  | (i, v) :: rest => match pty τ (ppath arr i) with
    | some u => match toVal rs v u with
      | some (y, l) => if place i = some (poff τ (ppath arr i), u.sz) ∧ (!arr || inArr τ i) = true then
          match pset τ x (ppath arr i) u y with
          | some x' => (setParts rs τ arr place x' rest).map fun r => (r.1, l ++ r.2)
          | none => none
        else none
      | none => none
    | none => none

inductive Parts2 (R : SV → Value → Prop) : List (Nat × SV) → List (Nat × Value) → Prop where
  | nil : Parts2 R [] []
  | cons {i : Nat} {v : SV} {V : Value} {vs : List (Nat × SV)} {Vs : List (Nat × Value)} (h : R v V) (t : Parts2 R vs Vs) : Parts2 R ((i, v) :: vs) ((i, V) :: Vs)

theorem setParts_sound {cx : Cx} {φ : Phi} {st : St} {a : Act} {w : World} (R : RelF cx φ st a w) {τ : Ty} {arr : Bool} {place : Nat → Option (Nat × Nat)} (L : List Nat) :
    ∀ (vs : List (Nat × SV)) (Vs : List (Nat × Value)) (x z : τ.den) (l : List Nat) (cells : Array Value), setParts st.regs τ arr place x vs = some (z, l) → (∀ r ∈ l, r ∈ L) →
      Parts2 (SVRel st.regs φ (okOf st.regs φ) w) vs Vs → cells.size = τ.sz → τ.rd (okOf (dels st.regs L) φ) w x (fun j => cells[j]?) →
      ∃ cells', Instr.fill place cells Vs = some cells' ∧ cells'.size = τ.sz ∧ τ.rd (okOf (dels st.regs L) φ) w z (fun j => cells'[j]?) := by
  intro vs
  induction vs with
  | nil =>
    intro Vs x z l cells h hL hV hs hr
    cases hV
    simp only [setParts, Option.some.injEq, Prod.mk.injEq] at h
    obtain ⟨rfl, rfl⟩ := h
    exact ⟨cells, rfl, hs, hr⟩
  | cons iv vs ih =>
    intro Vs x z l cells h hL hV hs hr
    cases hV with
    | cons hv ht =>
      rename_i i v V Vs
      simp only [setParts] at h
      split at h
      · rename_i u hp
        split at h
        · rename_i y l0 htv
          split at h
          · rename_i hc
            obtain ⟨hpl, hb⟩ := hc
            split at h
            · rename_i x' hx'
              rw [Option.map_eq_some_iff] at h
              obtain ⟨⟨z', l'⟩, hz, e⟩ := h
              simp only [Prod.mk.injEq] at e
              obtain ⟨rfl, rfl⟩ := e
              have hok : pok τ (ppath arr i) := by
                cases arr with
                | false => exact pok_fpath i τ u hp
                | true =>
                  cases τ <;> simp [inArr] at hb
                  simp only [ppath, if_true, pok]
                  exact ⟨by omega, by omega, trivial⟩
              have hbd := poff_le (ppath arr i) τ u hok hp
              have hVal := toVal_sound R htv hv
              have hVal' : VRel (okOf (dels st.regs L) φ) w u y V := hVal.mono fun b o h1 h2 => ⟨⟨fun s g hsg => by
                rw [look_dels] at hsg
                split at hsg
                · cases hsg
                · rename_i hns
                  refine h1.1 s g ?_
                  rw [look_dels, if_neg (fun hm => hns (hL s (List.mem_append_left _ hm)))]
                  exact hsg, h1.2⟩, h2⟩
              have hVl : V.cells.toList.length = u.sz := by simpa using hVal'.2.1
              rw [fill_step hpl hVal'.2.1 (by omega)]
              refine ih Vs x' z' l' _ hz (fun r hr => hL r (List.mem_append_right _ hr)) ht (by rw [size_writeAt]; exact hs) ?_
              refine rd_pset (ppath arr i) τ x _ _ u y x' _ hr hok hx' hVal'.1 (fun j hj => ?_) (fun j hj => ?_)
              · rw [get_writeAt _ _ _ _ (by omega), if_neg (by omega)]
              · rw [get_writeAt _ _ _ _ (by omega), if_pos (by omega)]
                simp
            · cases h
          · cases h
        · cases h
      · cases h

def placeOf (P : Program) (t : TypeId) : Option (Bool × (Nat → Option (Nat × Nat))) :=
  match P.underlying t with
  | some (.array _ e) => (sizeT P e).map fun s => (true, fun i => some (i * s, s))
  | some (.struct fs) => (fs.toList.mapM fun f => (P.info? f.type).map fun i => (f.offset, i.size)).map fun pl => (false, fun i => pl[i]?)
  | _ => none
theorem placeOf_built {P : Program} {t : TypeId} {arr : Bool} {place : Nat → Option (Nat × Nat)} {i : TypeInfo} {z : Value} (h : placeOf P t = some (arr, place)) (hi : P.info? t = some i) (hz : i.zero = some z) (parts : List (Nat × Value)) :
    P.built t parts = Instr.fill place z.cells parts := by
  unfold placeOf at h
  split at h
  · rename_i m e hu
    rw [Option.map_eq_some_iff] at h
    obtain ⟨s, hs, e1⟩ := h
    simp only [Prod.mk.injEq] at e1
    obtain ⟨rfl, rfl⟩ := e1
    unfold sizeT at hs
    rw [Option.map_eq_some_iff] at hs
    obtain ⟨ie, hie, rfl⟩ := hs
    simp only [Program.built, hi, hu, hz, hie]
  · rename_i fs hu
    rw [Option.map_eq_some_iff] at h
    obtain ⟨pl, hpl, e1⟩ := h
    simp only [Prod.mk.injEq] at e1
    obtain ⟨rfl, rfl⟩ := e1
    simp only [Program.built, hi, hu, hz, hpl]
    congr 1
    funext x
    simp
  · cases h

def buildV (P : Program) (rs : Regs) (t : TypeId) (parts : List (Nat × SV)) : Option (SV × Eff) :=
  match zty P t with
  | some τ => match placeOf P t with
    | some (arr, place) => if τ.agg = true then (setParts rs τ arr place τ.dflt parts).map fun r => (.val τ r.1, r.2.map EffI.del) else none
    | none => none
  | none => none
theorem app_dels' (rs : Regs) (l : List Nat) : Eff.app rs (l.map EffI.del) = dels rs l := by
  have := app_dels rs [] l
  simpa [Eff.app] using this
theorem buildV_sound {cx : Cx} {φ : Phi} {st : St} {a : Act} {w : World} (R : RelF cx φ st a w) {t : TypeId} {parts : List (Nat × SV)} {Parts : Array (Nat × Value)} {v : SV} {e : Eff}
    (h : buildV cx.P st.regs t parts = some (v, e)) (hp : Parts2 (SVRel st.regs φ (okOf st.regs φ) w) parts Parts.toList) :
    ∃ V, (Instr.build t Parts).run cx.P w = .ok V w ∧ RelF cx φ { st with regs := e.app st.regs } a w ∧ SVRel (e.app st.regs) φ (okOf (e.app st.regs) φ) w v V := by
  unfold buildV at h
  split at h
  · rename_i τ hzt
    split at h
    · rename_i arr place hpl
      split at h
      · rename_i hagg
        rw [Option.map_eq_some_iff] at h
        obtain ⟨⟨z', l⟩, hs, e1⟩ := h
        simp only [Prod.mk.injEq] at e1
        obtain ⟨rfl, rfl⟩ := e1
        obtain ⟨i, z, hi, hz, hsz, hzc, ha⟩ := (zty_spec hzt).ex
        have hr0 := Ty.rd_zero (okOf (dels st.regs l) φ) w τ
        rw [← hzc] at hr0
        obtain ⟨cells', f1, f2, f3⟩ := setParts_sound R l parts Parts.toList τ.dflt z' l z.cells hs (fun r hr => hr) hp (by rw [← Array.length_toList, hzc, τ.zero_length]) (by simpa using hr0)
        have hb : cx.P.built t Parts.toList = some cells' := by rw [placeOf_built hpl hi hz]; exact f1
        refine ⟨.agg cells', run_build w t Parts cells' hb, ?_, ?_⟩
        · rw [app_dels']; exact R.dels l
        · rw [app_dels']; exact ⟨f3, f2, by rw [hagg]; rfl⟩
      · cases h
    · cases h
  · cases h

/-- A slice literal: an array's, in a block of its own. -/
def buildSliceV (P : Program) (rs : Regs) (t : TypeId) (len : Nat) (parts : List (Nat × SV)) (n : Nat) : Option (SV × Eff) :=
  match P.underlying t with
  | some (.slice e) => match zty P e with
    | some τ => if len * τ.sz ≤ 16777216 ∧ 1 ≤ τ.sz then
        (setParts rs (.arr len τ) true (fun i => some (i * τ.sz, τ.sz)) (Ty.arr len τ).dflt parts).map fun r => (.sl n, r.2.map EffI.del ++ [.set none n (.row τ (r.1 : List τ.den))])
      else none
    | none => none
  | _ => none
theorem buildSliceV_sound {cx : Cx} {φ : Phi} {st : St} {a : Act} {w : World} (R : RelF cx φ st a w) {n : Nat} (hf : FreshN cx st n) {t : TypeId} {len : Nat} {parts : List (Nat × SV)} {Parts : Array (Nat × Value)} {v : SV} {e : Eff}
    (h : buildSliceV cx.P st.regs t len parts n = some (v, e)) (hp : Parts2 (SVRel st.regs φ (okOf st.regs φ) w) parts Parts.toList) :
    ∃ V w' φ', (Instr.buildSlice t len Parts).run cx.P w = .ok V w' ∧ RelF cx φ' { st with regs := e.app st.regs } a w' ∧ SVRel (e.app st.regs) φ' (okOf (e.app st.regs) φ') w' v V := by
  unfold buildSliceV at h
  split at h
  · rename_i e0 hu
    split at h
    · rename_i τ hzt
      split at h
      · rename_i hc
        obtain ⟨hlim, hsz1⟩ := hc
        rw [Option.map_eq_some_iff] at h
        obtain ⟨⟨xs, l⟩, hs, e1⟩ := h
        simp only [Prod.mk.injEq] at e1
        obtain ⟨rfl, rfl⟩ := e1
        obtain ⟨i, z, hi, hz, hsz, hzc, ha⟩ := (zty_spec hzt).ex
        have hzl : z.cells.size = τ.sz := by rw [← Array.length_toList, hzc, τ.zero_length]
        have hzc' : z.cells = τ.zero.toArray := by rw [← hzc]
        have hr0 : (Ty.arr len τ).rd (okOf (dels st.regs l) φ) w (Ty.arr len τ).dflt (fun j => (madeCells z.cells (len * τ.sz))[j]?) := by
          refine ⟨by simp [Ty.dflt], fun k hk => ?_⟩
          have hk' : k < len := by simpa [Ty.dflt] using hk
          have e1 : (Ty.arr len τ).dflt[k]'hk = τ.dflt := by simp [Ty.dflt]
          rw [e1]
          refine Ty.rd_congr _ _ _ _ (fun j hj => ?_) (Ty.rd_zero _ _ τ)
          show τ.zero[j]? = (madeCells z.cells (len * τ.sz))[k * τ.sz + j]?
          rw [hzc', made_get _ _ _ (by rw [τ.zero_length]; omega) (mul_lt_of hk' hj), τ.zero_length, Nat.mul_comm k τ.sz, Nat.mul_add_mod, Nat.mod_eq_of_lt hj]
        obtain ⟨cells', f1, f2, f3⟩ := setParts_sound R l parts Parts.toList _ xs l _ hs (fun r hr => hr) hp (by rw [size_madeCells]; rfl) hr0
        have hrun : (Instr.buildSlice t len Parts).run cx.P w = .ok (.slice (some ⟨w.heap.size, 0, none⟩) len len) (w.alloc (.cells cells' e0)) := by
          have hnl : ¬ (16777216 < len * τ.sz) := by omega
          have hz' : (zeroValue e0).run cx.P w = .ok z w := by simp [zeroValue, typeInfo, hi, hz]
          have hs' : sizeT cx.P e0 = some τ.sz := (zty_spec hzt).size
          have f1' : Instr.fill (fun i => some (i * τ.sz, τ.sz)) (madeCells z.cells (len * τ.sz)) Parts.toList = some cells' := f1
          by_cases hn : len * τ.sz = 0
          · have hm : madeCells z.cells (len * τ.sz) = #[] := by rw [hn]; simp [madeCells]
            rw [hm] at f1'
            simp [Instr.buildSlice, run_underlying hu, run_sizeOf hs', hn, newRow, Array.range_zero', f1']
          · unfold madeCells at f1'
            simp [Instr.buildSlice, run_underlying hu, run_sizeOf hs', hnl, hn, newRow, hz', f1']
        have R1 := R.dels l
        have hf1 : FreshN cx { st with regs := dels st.regs l } n := ⟨⟨by show look (dels st.regs l) n = none; rw [look_dels]; split; rfl; exact hf.1.1, hf.1.2⟩, hf.2⟩
        have hxl : List.length xs = len := f3.1
        have R2 := R1.new hf1 (.row τ (xs : List τ.den)) cells' e0 (0, 0) 0 len (fun w' hw' => by
          refine ⟨Nat.le_of_eq hxl, ?_⟩
          refine ⟨_, e0, _, hw', thaw0 _, ?_, fun k hk => ?_⟩
          · rw [f2]; show 0 + len * τ.sz ≤ len * τ.sz; omega
          · refine Ty.rd_congr _ _ _ _ (fun j hj => ?_) (f3.2 k hk)
            show _ = cells'[0 + k * τ.sz + j]?
            rw [Nat.zero_add])
        refine ⟨_, _, setLoc φ n ⟨some w.heap.size, 0, len⟩, hrun, ?_, ?_⟩
        · rw [app_dels]; exact R2
        · rw [app_dels]
          exact sl_new (u := τ) (xs := (xs : List τ.den)) (by rw [Eff.app, Eff.app, EffI.app, look_upd, if_pos rfl]) (by rw [hxl]; simp [setLoc, Loc.addr])
      · cases h
    · cases h
  · cases h

/-! ### the lesser, the greater -/
def lesser (g : Bool) (a b : Int) : Int := if g then (if b > a then b else a) else (if b < a then b else a)
def minStep (g : Bool) (k : IntKind) (m : Int) : List SV → Option Int
  | [] => some m
  | .val (.int k') b :: rest => if k = k' then minStep g k (lesser g m b) rest else none
  | _ => none
def minV' (g : Bool) : List SV → Option SV
  | .val (.int k) a :: rest => (minStep g k a rest).map (vI k)
  | _ => none
theorem minStep_sound {P : Program} {rs : Regs} {φ : Phi} {ok : Nat → Prop} {w : World} {k : IntKind} (g : Bool) : ∀ (xs : List SV) (Xs : List Value) (m z : Int), minStep g k m xs = some z → All2 (SVRel rs φ ok w) xs Xs →
    (Xs.foldlM (if g then Builtin.max2 else Builtin.min2) (Value.int k m)).run P w = .ok (.int k z) w := by
  intro xs
  induction xs with
  | nil => intro Xs m z h hx; cases hx; simp [minStep] at h; subst h; simp
  | cons x xs ih =>
    intro Xs m z h hx
    cases hx with
    | cons hv ht =>
      unfold minStep at h
      split at h
      · rename_i heq; cases heq
      · rename_i k' b rest heq
        cases heq
        split at h
        · rename_i hk
          subst hk
          have eV := VRel.int_eq hv
          subst eV
          have := ih _ _ _ h ht
          cases g
          · simpa [List.foldlM_cons, Builtin.min2, lesser] using this
          · simpa [List.foldlM_cons, Builtin.max2, lesser] using this
        · cases h
      · cases h
theorem minV_sound {P : Program} {rs : Regs} {φ : Phi} {ok : Nat → Prop} {w : World} {ts : Array TypeId} {t : TypeId} {xs : List SV} {Xs : Array Value} {v : SV} (g : Bool) (h : minV' g xs = some v) (hx : All2 (SVRel rs φ ok w) xs Xs.toList) :
    ∃ V, ((if g then Builtin.max_ else Builtin.min_) ts t Xs).run P w = .ok V w ∧ SVRel rs φ ok w v V := by
  unfold minV' at h
  split at h
  · rename_i k a rest
    rw [Option.map_eq_some_iff] at h
    obtain ⟨z, hz, rfl⟩ := h
    cases hX : Xs.toList with
    | nil => rw [hX] at hx; cases hx
    | cons X Xs' =>
      rw [hX] at hx
      cases hx with
      | cons hv ht =>
        have eV := VRel.int_eq hv
        subst eV
        have := minStep_sound (P := P) g _ _ _ _ hz ht
        refine ⟨_, ?_, VRel.of_int _ _ _ _⟩
        cases g
        · show (Builtin.min_ ts t Xs).run P w = _
          simp only [Builtin.min_, hX]
          exact this
        · show (Builtin.max_ ts t Xs).run P w = _
          simp only [Builtin.max_, hX]
          exact this
  · cases h

end Go.Lift
/- Structs compared. -/
namespace Go.Lift
open Go

def eqD : (τ : Ty) → τ.den → τ.den → Bool
  | .int _, x, y => @BEq.beq Int _ x y
  | .bool, x, y => @BEq.beq Bool _ x y
  | .str, x, y => x.toList == y.toList
  | .pair a b, x, y => eqD a x.1 y.1 && eqD b x.2 y.2
  | .unit, _, _ => true
  | _, _, _ => false
def scalT (P : Program) (t : TypeId) : Ty → Bool
  | .int _ => match P.underlying t with
    | some (.int _) => true
    | _ => false
  | .bool => match P.underlying t with
    | some .bool => true
    | _ => false
  | .str => match P.underlying t with
    | some .string => true
    | _ => false
  | _ => false
def eqFs (P : Program) : List Field → Ty → Nat → Bool
  | [], .unit, _ => true
  | f :: fs, .pair a b, o => f.name != "_" && f.offset == o && scalT P f.type a && fits P f.type a && eqFs P fs b (o + a.sz)
  | _, _, _ => false
def eqAgg (P : Program) (t : TypeId) (τ : Ty) : Bool :=
  match P.underlying t with
  | some (.struct fs) => !P.stoodInHeld t && !P.eqGuardType P.depth t && τ.agg && eqFs P fs.toList τ 0
  | _ => false

theorem eqScal {P : Program} {ok : Nat → Prop} {w : World} {t : TypeId} {τ : Ty} {x y : τ.den} {X Y : Value} (h : scalT P t τ = true) (hx : VRel ok w τ x X) (hy : VRel ok w τ y Y) (d : Nat) :
    (Op.equalIn (d + 1) t X Y).run P w = .ok (eqD τ x y) w := by
  unfold scalT at h
  split at h
  · split at h
    · rename_i k hu
      have eX := VRel.int_eq hx
      have eY := VRel.int_eq hy
      subst eX; subst eY
      rw [run_equalIn_int w d t _ _ _ _ hu]; rfl
    · cases h
  · split at h
    · rename_i hu
      have eX := VRel.bool_eq hx
      have eY := VRel.bool_eq hy
      subst eX; subst eY
      rw [run_equalIn_bool' w d t _ _ hu]; rfl
    · cases h
  · split at h
    · rename_i hu
      have eX := VRel.str_eq hx
      have eY := VRel.str_eq hy
      subst eX; subst eY
      rw [run_equalIn_string w d t _ _ hu]; rfl
    · cases h
  · cases h

theorem eqFs_run {P : Program} {ok : Nat → Prop} {w : World} {xs ys : Array Value} (d : Nat) : ∀ (fs : List Field) (τ : Ty) (o : Nat) (x y : τ.den), eqFs P fs τ o = true →
    τ.rd ok w x (fun j => xs[o + j]?) → τ.rd ok w y (fun j => ys[o + j]?) → (Op.eqFields (d + 1) xs ys fs).run P w = .ok (eqD τ x y) w := by
  intro fs
  induction fs with
  | nil =>
    intro τ o x y h hx hy
    cases τ <;> first | (simp [eqFs] at h; done) | skip
    simp [Op.eqFields, eqD]
  | cons f fs ih =>
    intro τ o x y h hx hy
    cases τ <;> first | (simp [eqFs] at h; done) | skip
    rename_i a b
    simp only [eqFs, Bool.and_eq_true, bne_iff_ne, ne_eq, beq_iff_eq] at h
    obtain ⟨⟨⟨⟨h1, h2⟩, h3⟩, h4⟩, h5⟩ := h
    subst h2
    obtain ⟨hx1, hx2⟩ := hx
    obtain ⟨hy1, hy2⟩ := hy
    obtain ⟨X, e1, e2⟩ := run_part_rd (P := P) h4 hx1
    obtain ⟨Y, g1, g2⟩ := run_part_rd (P := P) h4 hy1
    have he := eqScal h3 e2 g2 d
    have hr := ih b (f.offset + a.sz) x.2 y.2 h5 (by simpa [Nat.add_assoc] using hx2) (by simpa [Nat.add_assoc] using hy2)
    simp only [Op.eqFields, ne_eq, h1, not_false_eq_true, if_true, Sem.run_bind, e1, g1, he, Result.andThen_ok, Sem.run_ite, hr, eqD]
    cases eqD a x.1 y.1 <;> simp

theorem eqAgg_run {P : Program} {ok : Nat → Prop} {w : World} {t : TypeId} {τ : Ty} {x y : τ.den} {X Y : Value} (xo yo : Operand) (h : eqAgg P t τ = true) (hx : VRel ok w τ x X) (hy : VRel ok w τ y Y) :
    (do eqGuard .eql t xo yo X Y; binOp .eql t X Y : Sem Value).run P w = .ok (.bool (eqD τ x y)) w ∧ (do eqGuard .neq t xo yo X Y; binOp .neq t X Y : Sem Value).run P w = .ok (.bool (!eqD τ x y)) w := by
  unfold eqAgg at h
  split at h
  · rename_i fs hu
    simp only [Bool.and_eq_true, Bool.not_eq_true'] at h
    obtain ⟨⟨⟨h1, h2⟩, h3⟩, h4⟩ := h
    have hX : ∃ cs, X = .agg cs := by
      have := hx.2.2
      rw [h3] at this
      cases X <;> simp [Value.isAgg] at this
      exact ⟨_, rfl⟩
    have hY : ∃ cs, Y = .agg cs := by
      have := hy.2.2
      rw [h3] at this
      cases Y <;> simp [Value.isAgg] at this
      exact ⟨_, rfl⟩
    obtain ⟨cs, rfl⟩ := hX
    obtain ⟨ds, rfl⟩ := hY
    have hf : P.fieldsOf t = fs := by simp [Program.fieldsOf, hu]
    have key : (Op.equalIn 10000 t (.agg cs) (.agg ds)).run P w = .ok (eqD τ x y) w := by
      rw [run_equalIn_agg w 9999 t cs ds (by rw [hf]; exact hu) h1, hf]
      refine eqFs_run (ok := ok) 9998 fs.toList τ 0 x y h4 ?_ ?_
      · simpa [Value.cells] using hx.1
      · simpa [Value.cells] using hy.1
    constructor
    · simp only [Sem.run_bind, run_eqGuard_agg w .eql t xo yo cs ds h2, Result.andThen_ok, run_eql_struct, key]
    · simp only [Sem.run_bind, run_eqGuard_agg w .neq t xo yo cs ds h2, Result.andThen_ok, run_neq_struct, key]
  · cases h
end Go.Lift
