/- What is made: variables, rows, structs; abstract, and that they tell what the machine does. -/
import Derived.Test.YtfkedbncidahjaaL6
set_option linter.unusedVariables false
set_option linter.unusedSimpArgs false
namespace Go.Lift
open Go

/-! ### zero values -/
def Ty.zero : Ty → List Value
  | .int k => [.int k 0]
  | .bool => [.bool false]
  | .str => [.string ByteArray.empty]
  | .unit => []
  | .ro _ => [.slice none 0 0]
  | .pair a b => a.zero ++ b.zero
  | .arr n t => (List.replicate n t.zero).flatten
theorem Ty.zero_length : ∀ (t : Ty), t.zero.length = t.sz := by
  intro t
  induction t with
  | pair a b iha ihb => simp [Ty.zero, Ty.sz, iha, ihb]
  | arr n t ih => simp [Ty.zero, Ty.sz, List.length_flatten, ih]
  | _ => rfl
theorem flatten_get {l : List Value} : ∀ (n i j : Nat), i < n → j < l.length → (List.replicate n l).flatten[i * l.length + j]? = l[j]? := by
  intro n
  induction n with
  | zero => intro i j h; omega
  | succ n ih =>
    intro i j hi hj
    rw [List.replicate_succ, List.flatten_cons]
    cases i with
    | zero => rw [Nat.zero_mul, Nat.zero_add, List.getElem?_append_left hj]
    | succ i =>
      rw [List.getElem?_append_right (by rw [Nat.add_mul]; omega)]
      rw [show (i + 1) * l.length + j - l.length = i * l.length + j from by rw [Nat.add_mul]; omega]
      exact ih i j (by omega) hj
theorem Ty.rd_zero (ok : Nat → Prop) (w : World) : ∀ (t : Ty), t.rd ok w t.dflt (fun j => t.zero[j]?) := by
  intro t
  induction t with
  | int k => rfl
  | bool => rfl
  | str => rfl
  | unit => trivial
  | ro t ih => exact ⟨none, 0, rfl, Nat.le_refl _, .inl rfl⟩
  | pair a b iha ihb =>
    refine ⟨Ty.rd_congr _ _ _ _ (fun j hj => ?_) iha, Ty.rd_congr _ _ _ _ (fun j hj => ?_) ihb⟩
    · simp only [Ty.zero]
      rw [List.getElem?_append_left (by rw [a.zero_length]; exact hj)]
    · simp only [Ty.zero]
      rw [List.getElem?_append_right (by rw [a.zero_length]; omega), a.zero_length, Nat.add_sub_cancel_left]
  | arr n t ih =>
    refine ⟨by simp [Ty.dflt], fun i hi => ?_⟩
    have hi' : i < n := by simpa [Ty.dflt] using hi
    have e : (Ty.arr n t).dflt[i]'hi = t.dflt := by simp [Ty.dflt]
    rw [e]
    refine Ty.rd_congr _ _ _ _ (fun j hj => ?_) ih
    simp only [Ty.zero]
    have := flatten_get (l := t.zero) n i j hi' (by rw [t.zero_length]; exact hj)
    rw [t.zero_length] at this
    exact this.symm

def isZ : Value → Value → Bool
  | .int k 0, .int k' 0 => k == k'
  | .bool false, .bool false => true
  | .string s, .string s' => s.data.toList.isEmpty && s'.data.toList.isEmpty
  | .slice none 0 0, .slice none 0 0 => true
  | _, _ => false
theorem isZ_eq {u v : Value} (h : isZ u v = true) : u = v := by
  unfold isZ at h
  split at h
  · simp at h; subst h; rfl
  · rfl
  · rename_i s s'
    simp at h
    cases s; cases s'
    simp at h
    simp [h.1, h.2]
  · rfl
  · cases h
def allZ : List Value → List Value → Bool
  | [], [] => true
  | u :: us, v :: vs => isZ u v && allZ us vs
  | _, _ => false
theorem allZ_eq : ∀ {us vs : List Value}, allZ us vs = true → us = vs
  | [], [], _ => rfl
  | u :: us, v :: vs, h => by
    simp only [allZ, Bool.and_eq_true] at h
    rw [isZ_eq h.1, allZ_eq h.2]
  | [], _ :: _, h => by simp [allZ] at h
  | _ :: _, [], h => by simp [allZ] at h

/-- The shape of a type of the program, slices as what is not written. -/
def tyFields (f : TypeId → Option Ty) : List Field → Option Ty
  | [] => some .unit
  | x :: xs => match f x.type, tyFields f xs with
    | some a, some b => some (.pair a b)
    | _, _ => none
def tyOf (P : Program) : Nat → TypeId → Option Ty
  | 0, _ => none
  | n + 1, t => match P.underlying t with
    | some (.int k) => some (.int k)
    | some .bool => some .bool
    | some .string => some .str
    | some (.slice e) => (tyOf P n e).map Ty.ro
    | some (.array m e) => (tyOf P n e).map (Ty.arr m)
    | some (.struct fs) => tyFields (tyOf P n) fs.toList
    | _ => none

/-- The type's shape, if the program's zero value is its zero. -/
def zty (P : Program) (t : TypeId) : Option Ty :=
  match tyOf P 12 t with
  | none => none
  | some u => match P.info? t with
    | none => none
    | some i => match i.zero with
      | none => none
      | some z => if i.size = u.sz ∧ allZ u.zero z.cells.toList = true ∧ Value.isAgg z = u.agg then some u else none
structure ZTy (P : Program) (t : TypeId) (u : Ty) : Prop where
  ex : ∃ i z, P.info? t = some i ∧ i.zero = some z ∧ i.size = u.sz ∧ z.cells.toList = u.zero ∧ Value.isAgg z = u.agg
theorem zty_spec {P : Program} {t : TypeId} {u : Ty} (h : zty P t = some u) : ZTy P t u := by
  unfold zty at h
  split at h
  · cases h
  · rename_i u' _
    split at h
    · cases h
    · rename_i i hi
      split at h
      · cases h
      · rename_i z hz
        split at h
        · rename_i hc
          cases h
          exact ⟨i, z, hi, hz, hc.1, (allZ_eq hc.2.1).symm, hc.2.2⟩
        · cases h
theorem ZTy.size {P : Program} {t : TypeId} {u : Ty} (h : ZTy P t u) : sizeT P t = some u.sz := by
  obtain ⟨i, z, hi, _, hs, _⟩ := h.ex
  simp [sizeT, hi, hs]
theorem ZTy.run {P : Program} {t : TypeId} {u : Ty} (h : ZTy P t u) (ok : Nat → Prop) (w w' : World) : ∃ z, (zeroValue t).run P w = .ok z w ∧ VRel ok w' u u.dflt z ∧ z.cells.toList = u.zero := by
  obtain ⟨i, z, hi, hz, hs, hc, ha⟩ := h.ex
  refine ⟨z, by simp [zeroValue, typeInfo, hi, hz], ⟨?_, ?_, ha⟩, hc⟩
  · have := Ty.rd_zero ok w' u
    rw [← hc] at this
    simpa using this
  · rw [← Array.length_toList, hc, u.zero_length]

/-- A new block, a new region. -/
theorem RelF.new {cx : Cx} {φ : Phi} {st : St} {a : Act} {w : World} (R : RelF cx φ st a w) {n : Nat} (hf : FreshN cx st n) (g : Reg) (cs : Array Value) (ty : TypeId) (fz : Nat × Nat) (off cap : Nat)
    (hat : ∀ w', w'.heap[w.heap.size]? = some (.cells cs ty fz) → g.at2 (okOf st.regs φ) w w' ⟨some w.heap.size, off, cap⟩) :
    RelF cx (setLoc φ n ⟨some w.heap.size, off, cap⟩) { st with regs := upd st.regs n (some g) } a { w with heap := w.heap.push (.cells cs ty fz) } :=
  R.step none n g ⟨some w.heap.size, off, cap⟩ (fun b hb => .inl (by cases hb; exact Nat.le_refl _))
    (fun b hb _ => by simp [Array.getElem?_push, Nat.ne_of_lt hb]) (.inl hf.1) (fun l0 hl => (hf.2 l0 hl).elim)
    (hat _ (by simp)) rfl rfl rfl (by simp)

theorem thaw0 (n : Nat) : Thawed (0, 0) n := by intro i _; simp

/-! ### a variable -/
def boxV (x : SV) (n : Nat) : Option (SV × Eff) :=
  match x with
  | .val u y => some (.addr n [], [.set none n (.box u y)])
  | _ => none
theorem new_box {cx : Cx} {φ : Phi} {st : St} {a : Act} {w : World} (R : RelF cx φ st a w) {n : Nat} (hf : FreshN cx st n) {u : Ty} {y : u.den} {v : Value} (ty : TypeId)
    (hv : VRel (okOf st.regs φ) w u y v) : RelF cx (setLoc φ n ⟨some w.heap.size, 0, 0⟩) { st with regs := upd st.regs n (some (.box u y)) } a { w with heap := w.heap.push (.cells v.cells ty) } := by
  refine R.new hf (.box u y) v.cells ty (0, 0) 0 0 (fun w' hw' => ⟨rfl, w.heap.size, v.cells, ty, (0, 0), rfl, hw', thaw0 _, hv.2.1, hv.1⟩)
theorem addr_new {φ : Phi} {rs : Regs} {n : Nat} {b : Nat} {ok : Nat → Prop} {w : World} {u : Ty} {y : u.den} (hφ : φ n = ⟨some b, 0, 0⟩) (hl : look rs n = some (.box u y)) :
    SVRel rs φ ok w (.addr n []) (.pointer (some ⟨b, 0, none⟩)) := by
  intro g hg
  rw [hl] at hg; cases hg
  exact ⟨b, by rw [hφ], by simp [pok], by simp [poff]⟩
theorem boxV_sound {cx : Cx} {φ : Phi} {st : St} {a : Act} {w : World} (R : RelF cx φ st a w) {n : Nat} (hf : FreshN cx st n) {t : TypeId} {x v : SV} {e : Eff} {X : Value}
    (h : boxV x n = some (v, e)) (hx : SVRel st.regs φ (okOf st.regs φ) w x X) :
    ∃ V w' φ', (Instr.box t X).run cx.P w = .ok V w' ∧ RelF cx φ' { st with regs := e.app st.regs } a w' ∧ SVRel (e.app st.regs) φ' (okOf (e.app st.regs) φ') w' v V := by
  unfold boxV at h
  split at h
  · rename_i u y
    cases h
    have R1 := new_box R hf t hx
    exact ⟨.pointer (some ⟨w.heap.size, 0, none⟩), _, _, by simp [Instr.box, newVar, newRow], R1, addr_new (u := u) (y := y) (by simp [setLoc]) (by rw [Eff.app, Eff.app, EffI.app, look_upd, if_pos rfl])⟩
  · cases h

def allocV (P : Program) (t : TypeId) (n : Nat) : Option (SV × Eff) :=
  match zty P t with
  | some u => some (.addr n [], [.set none n (.box u u.dflt)])
  | none => none
theorem allocV_sound {cx : Cx} {φ : Phi} {st : St} {a : Act} {w : World} (R : RelF cx φ st a w) {n : Nat} (hf : FreshN cx st n) {t : TypeId} {v : SV} {e : Eff}
    (h : allocV cx.P t n = some (v, e)) :
    ∃ V w' φ', (Instr.alloc t true (.tuple #[])).run cx.P w = .ok V w' ∧ RelF cx φ' { st with regs := e.app st.regs } a w' ∧ SVRel (e.app st.regs) φ' (okOf (e.app st.regs) φ') w' v V := by
  unfold allocV at h
  split at h
  · rename_i u hu
    cases h
    obtain ⟨z, hz, hv, _⟩ := (zty_spec hu).run (okOf st.regs φ) w w
    have R1 := new_box R hf t hv
    exact ⟨.pointer (some ⟨w.heap.size, 0, none⟩), _, _, by simp [Instr.alloc, hz, newVar, newRow], R1, addr_new (u := u) (y := u.dflt) (by simp [setLoc]) (by rw [Eff.app, Eff.app, EffI.app, look_upd, if_pos rfl])⟩
  · cases h

/-! ### a row -/
theorem sl_new {φ : Phi} {rs : Regs} {n : Nat} {ok : Nat → Prop} {w : World} {u : Ty} {xs : List u.den} {v : Value} (hl : look rs n = some (.row u xs))
    (hv : v = .slice (φ n).addr xs.length (φ n).cap) : SVRel rs φ ok w (.sl n) v := by
  intro t ys hg
  rw [hl] at hg; cases hg
  exact hv

def makeV (P : Program) (t : TypeId) (l c : SV) (n : Nat) : Option (List Prop × SV × Eff) :=
  match P.underlying t, l, c with
  | some (.slice e), .val (.int _) l, .val (.int _) c => match zty P e, bytesT P e with
    | some u, some by_ => if 1 ≤ by_ then some ([0 ≤ l, l ≤ c, (by_ : Int) * c ≤ 281474976710656], .sl n, [.set none n (.row u (List.replicate l.toNat u.dflt))]) else none
    | _, _ => none
  | _, _, _ => none
theorem made_get (z : List Value) (n j : Nat) (hz : 0 < z.length) (hj : j < n) : (madeCells z.toArray n)[j]? = z[j % z.length]? := by
  have h1 : j % z.length < z.length := Nat.mod_lt _ hz
  simp [madeCells, hj, h1]
theorem makeV_sound {cx : Cx} {φ : Phi} {st : St} {a : Act} {w : World} (R : RelF cx φ st a w) {n : Nat} (hf : FreshN cx st n) {t : TypeId} {l c v : SV} {vc : List Prop} {e : Eff} {L C : Value}
    (h : makeV cx.P t l c n = some (vc, v, e)) (hvc : ∀ p ∈ vc, p) (hl : SVRel st.regs φ (okOf st.regs φ) w l L) (hc : SVRel st.regs φ (okOf st.regs φ) w c C) :
    ∃ V w' φ', (Instr.makeSlice t L C).run cx.P w = .ok V w' ∧ RelF cx φ' { st with regs := e.app st.regs } a w' ∧ SVRel (e.app st.regs) φ' (okOf (e.app st.regs) φ') w' v V := by
  unfold makeV at h
  split at h
  · rename_i e0 k1 l k2 c hu
    split at h
    · rename_i u by_ hzt hby
      split at h
      · rename_i hb1
        cases h
        have eL : L = .int k1 l := VRel.int_eq hl
        have eC : C = .int k2 c := VRel.int_eq hc
        subst eL; subst eC
        have h0 : @LE.le Int _ 0 l := hvc _ (by simp)
        have h1 : @LE.le Int _ l c := hvc _ (by simp)
        have h2 : @LE.le Int _ ((by_ : Int) * c) 281474976710656 := hvc _ (by simp)
        obtain ⟨i, z, hi, hz, hs, hzc, ha⟩ := (zty_spec hzt).ex
        have hbi : i.bytes = by_ := by simpa [bytesT, hi] using hby
        subst hbi
        have hcc : @LE.le Int _ c 281474976710656 := by
          have : (1 : Int) * c ≤ (i.bytes : Int) * c := Int.mul_le_mul_of_nonneg_right (by omega) (Int.le_trans h0 h1)
          rw [Int.one_mul] at this
          exact Int.le_trans this h2
        have hrun := run_make (P := cx.P) w t e0 i z hu hi hz k1 k2 l c h0 h1 h2 (Int.le_trans hcc (by decide))
        have hzc' : z.cells = u.zero.toArray := by rw [← hzc]
        have h1' : (Int.toNat l) ≤ (Int.toNat c) := Int.toNat_le_toNat h1
        have R1 := R.new hf (.row u (List.replicate (Int.toNat l) u.dflt)) (madeCells z.cells ((Int.toNat c) * i.size)) e0 (0, 0) 0 (Int.toNat c)
          (fun w' hw' => by
            refine ⟨by simpa using h1', ?_⟩
            refine ⟨_, e0, (0, 0), hw', thaw0 _, by rw [size_madeCells, hs]; exact Nat.le_of_eq (Nat.zero_add _), fun k hk => ?_⟩
            have hk' : k < (Int.toNat l) := by simpa using hk
            have e1 : (List.replicate (Int.toNat l) u.dflt)[k]'hk = u.dflt := by simp
            rw [e1]
            refine Ty.rd_congr _ _ _ _ (fun j hj => ?_) (Ty.rd_zero _ _ u)
            rw [hzc', hs, made_get _ _ _ (by rw [u.zero_length]; omega) (by rw [Nat.zero_add]; exact mul_lt_of (by omega) hj), u.zero_length]
            rw [Nat.zero_add, Nat.mul_comm k u.sz, Nat.mul_add_mod, Nat.mod_eq_of_lt hj])
        refine ⟨_, _, _, hrun, R1, sl_new (u := u) (xs := List.replicate (Int.toNat l) u.dflt) (by rw [Eff.app, Eff.app, EffI.app, look_upd, if_pos rfl]) ?_⟩
        simp [setLoc, Loc.addr]
      · cases h
    · cases h
  · cases h

end Go.Lift
