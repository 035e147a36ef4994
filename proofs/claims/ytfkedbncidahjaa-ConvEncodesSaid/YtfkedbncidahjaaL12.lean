/- Literals, the lesser and the greater, equality: abstract, and that they tell what the machine does. -/
import Derived.Test.YtfkedbncidahjaaL11
import Derived.Laws.Tables
set_option linter.unusedVariables false
set_option linter.unusedSimpArgs false
namespace Go.Lift
open Go

theorem zipIdx_write : ∀ (l : List Value) (k off : Nat) (cs : Array Value), (l.zipIdx k).foldl (fun cs (x : Value × Nat) => cs.setIfInBounds (off + x.2) x.1) cs = writeAt cs (off + k) l
  | [], _, _, _ => rfl
  | v :: r, k, off, cs => by
    simp only [List.zipIdx_cons, List.foldl_cons, writeAt]
    rw [zipIdx_write r (k + 1) off]
    rw [Nat.add_assoc]
theorem fill_step {place : Nat → Option (Nat × Nat)} {cells : Array Value} {i : Nat} {v : Value} {rest : List (Nat × Value)} {off size : Nat} (hp : place i = some (off, size)) (hs : v.cells.size = size) (hl : off + size ≤ cells.size) :
    Instr.fill place cells ((i, v) :: rest) = Instr.fill place (writeAt cells off v.cells.toList) rest := by
  have h1 : ¬ (v.cells.size ≠ size ∨ off + v.cells.size > cells.size) := by omega
  simp only [Instr.fill, hp]
  rw [if_neg (by simpa using h1)]
  congr 1
  rw [← Array.foldl_toList, Array.toList_zipIdx]
  exact zipIdx_write v.cells.toList 0 off cells

def inArr : Ty → Nat → Bool
  | .arr n _, i => decide (i < n)
  | _, _ => false
def ppath (arr : Bool) (i : Nat) : List Step := if arr then [.idx i] else fpath i

/-- The parts of a literal set, one by one. -/
def setParts (rs : Regs) (τ : Ty) (arr : Bool) (place : Nat → Option (Nat × Nat)) (x : τ.den) : List (Nat × SV) → Option (τ.den × List Nat)
  | [] => some (x, [])
  | (i, v) :: rest => match pty τ (ppath arr i) with
    | some u => match toVal rs v u with
      | some (y, l) => if place i = some (poff τ (ppath arr i), u.sz) ∧ (!arr || inArr τ i) = true then
          match pset τ x (ppath arr i) u y with
          | some x' => (setParts rs τ arr place x' rest).map fun r => (r.1, l ++ r.2)
          | none => none
        else none
      | none => none
    | none => none

inductive Parts2 (R : SV → Value → Prop) : List (Nat × SV) → List (Nat × Value) → Prop where
  | nil : Parts2 R [] []
  | cons {i : Nat} {v : SV} {V : Value} {vs : List (Nat × SV)} {Vs : List (Nat × Value)} (h : R v V) (t : Parts2 R vs Vs) : Parts2 R ((i, v) :: vs) ((i, V) :: Vs)

theorem setParts_sound {cx : Cx} {φ : Phi} {st : St} {a : Act} {w : World} (R : RelF cx φ st a w) {τ : Ty} {arr : Bool} {place : Nat → Option (Nat × Nat)} (L : List Nat) :
    ∀ (vs : List (Nat × SV)) (Vs : List (Nat × Value)) (x z : τ.den) (l : List Nat) (cells : Array Value), setParts st.regs τ arr place x vs = some (z, l) → (∀ r ∈ l, r ∈ L) →
      Parts2 (SVRel st.regs φ (okOf st.regs φ) w) vs Vs → cells.size = τ.sz → τ.rd (okOf (dels st.regs L) φ) w x (fun j => cells[j]?) →
      ∃ cells', Instr.fill place cells Vs = some cells' ∧ cells'.size = τ.sz ∧ τ.rd (okOf (dels st.regs L) φ) w z (fun j => cells'[j]?) := by
  intro vs
  induction vs with
  | nil =>
    intro Vs x z l cells h hL hV hs hr
    cases hV
    simp only [setParts, Option.some.injEq, Prod.mk.injEq] at h
    obtain ⟨rfl, rfl⟩ := h
    exact ⟨cells, rfl, hs, hr⟩
  | cons iv vs ih =>
    intro Vs x z l cells h hL hV hs hr
    cases hV with
    | cons hv ht =>
      rename_i i v V Vs
      simp only [setParts] at h
      split at h
      · rename_i u hp
        split at h
        · rename_i y l0 htv
          split at h
          · rename_i hc
            obtain ⟨hpl, hb⟩ := hc
            split at h
            · rename_i x' hx'
              rw [Option.map_eq_some_iff] at h
              obtain ⟨⟨z', l'⟩, hz, e⟩ := h
              simp only [Prod.mk.injEq] at e
              obtain ⟨rfl, rfl⟩ := e
              have hok : pok τ (ppath arr i) := by
                cases arr with
                | false => exact pok_fpath i τ u hp
                | true =>
                  cases τ <;> simp [inArr] at hb
                  simp only [ppath, if_true, pok]
                  exact ⟨by omega, by omega, trivial⟩
              have hbd := poff_le (ppath arr i) τ u hok hp
              have hVal := toVal_sound R htv hv
              have hVal' : VRel (okOf (dels st.regs L) φ) w u y V := hVal.mono fun b o h1 h2 => ⟨⟨fun s g hsg => by
                rw [look_dels] at hsg
                split at hsg
                · cases hsg
                · rename_i hns
                  refine h1.1 s g ?_
                  rw [look_dels, if_neg (fun hm => hns (hL s (List.mem_append_left _ hm)))]
                  exact hsg, h1.2⟩, h2⟩
              have hVl : V.cells.toList.length = u.sz := by simpa using hVal'.2.1
              rw [fill_step hpl hVal'.2.1 (by omega)]
              refine ih Vs x' z' l' _ hz (fun r hr => hL r (List.mem_append_right _ hr)) ht (by rw [size_writeAt]; exact hs) ?_
              refine rd_pset (ppath arr i) τ x _ _ u y x' _ hr hok hx' hVal'.1 (fun j hj => ?_) (fun j hj => ?_)
              · rw [get_writeAt _ _ _ _ (by omega), if_neg (by omega)]
              · rw [get_writeAt _ _ _ _ (by omega), if_pos (by omega)]
                simp
            · cases h
          · cases h
        · cases h
      · cases h

def placeOf (P : Program) (t : TypeId) : Option (Bool × (Nat → Option (Nat × Nat))) :=
  match P.underlying t with
  | some (.array _ e) => (sizeT P e).map fun s => (true, fun i => some (i * s, s))
  | some (.struct fs) => (fs.toList.mapM fun f => (P.info? f.type).map fun i => (f.offset, i.size)).map fun pl => (false, fun i => pl[i]?)
  | _ => none
theorem placeOf_built {P : Program} {t : TypeId} {arr : Bool} {place : Nat → Option (Nat × Nat)} {i : TypeInfo} {z : Value} (h : placeOf P t = some (arr, place)) (hi : P.info? t = some i) (hz : i.zero = some z) (parts : List (Nat × Value)) :
    P.built t parts = Instr.fill place z.cells parts := by
  unfold placeOf at h
  split at h
  · rename_i m e hu
    rw [Option.map_eq_some_iff] at h
    obtain ⟨s, hs, e1⟩ := h
    simp only [Prod.mk.injEq] at e1
    obtain ⟨rfl, rfl⟩ := e1
    unfold sizeT at hs
    rw [Option.map_eq_some_iff] at hs
    obtain ⟨ie, hie, rfl⟩ := hs
    simp only [Program.built, hi, hu, hz, hie]
  · rename_i fs hu
    rw [Option.map_eq_some_iff] at h
    obtain ⟨pl, hpl, e1⟩ := h
    simp only [Prod.mk.injEq] at e1
    obtain ⟨rfl, rfl⟩ := e1
    simp only [Program.built, hi, hu, hz, hpl]
    congr 1
    funext x
    simp
  · cases h

def buildV (P : Program) (rs : Regs) (t : TypeId) (parts : List (Nat × SV)) : Option (SV × Eff) :=
  match zty P t with
  | some τ => match placeOf P t with
    | some (arr, place) => if τ.agg = true then (setParts rs τ arr place τ.dflt parts).map fun r => (.val τ r.1, r.2.map EffI.del) else none
    | none => none
  | none => none
theorem app_dels' (rs : Regs) (l : List Nat) : Eff.app rs (l.map EffI.del) = dels rs l := by
  have := app_dels rs [] l
  simpa [Eff.app] using this
theorem buildV_sound {cx : Cx} {φ : Phi} {st : St} {a : Act} {w : World} (R : RelF cx φ st a w) {t : TypeId} {parts : List (Nat × SV)} {Parts : Array (Nat × Value)} {v : SV} {e : Eff}
    (h : buildV cx.P st.regs t parts = some (v, e)) (hp : Parts2 (SVRel st.regs φ (okOf st.regs φ) w) parts Parts.toList) :
    ∃ V, (Instr.build t Parts).run cx.P w = .ok V w ∧ RelF cx φ { st with regs := e.app st.regs } a w ∧ SVRel (e.app st.regs) φ (okOf (e.app st.regs) φ) w v V := by
  unfold buildV at h
  split at h
  · rename_i τ hzt
    split at h
    · rename_i arr place hpl
      split at h
      · rename_i hagg
        rw [Option.map_eq_some_iff] at h
        obtain ⟨⟨z', l⟩, hs, e1⟩ := h
        simp only [Prod.mk.injEq] at e1
        obtain ⟨rfl, rfl⟩ := e1
        obtain ⟨i, z, hi, hz, hsz, hzc, ha⟩ := (zty_spec hzt).ex
        have hr0 := Ty.rd_zero (okOf (dels st.regs l) φ) w τ
        rw [← hzc] at hr0
        obtain ⟨cells', f1, f2, f3⟩ := setParts_sound R l parts Parts.toList τ.dflt z' l z.cells hs (fun r hr => hr) hp (by rw [← Array.length_toList, hzc, τ.zero_length]) (by simpa using hr0)
        have hb : cx.P.built t Parts.toList = some cells' := by rw [placeOf_built hpl hi hz]; exact f1
        refine ⟨.agg cells', run_build w t Parts cells' hb, ?_, ?_⟩
        · rw [app_dels']; exact R.dels l
        · rw [app_dels']; exact ⟨f3, f2, by rw [hagg]; rfl⟩
      · cases h
    · cases h
  · cases h

/-- A slice literal: an array's, in a block of its own. -/
def buildSliceV (P : Program) (rs : Regs) (t : TypeId) (len : Nat) (parts : List (Nat × SV)) (n : Nat) : Option (SV × Eff) :=
  match P.underlying t with
  | some (.slice e) => match zty P e with
    | some τ => if len * τ.sz ≤ 16777216 ∧ 1 ≤ τ.sz then
        (setParts rs (.arr len τ) true (fun i => some (i * τ.sz, τ.sz)) (Ty.arr len τ).dflt parts).map fun r => (.sl n, r.2.map EffI.del ++ [.set none n (.row τ (r.1 : List τ.den))])
      else none
    | none => none
  | _ => none
theorem buildSliceV_sound {cx : Cx} {φ : Phi} {st : St} {a : Act} {w : World} (R : RelF cx φ st a w) {n : Nat} (hf : FreshN cx st n) {t : TypeId} {len : Nat} {parts : List (Nat × SV)} {Parts : Array (Nat × Value)} {v : SV} {e : Eff}
    (h : buildSliceV cx.P st.regs t len parts n = some (v, e)) (hp : Parts2 (SVRel st.regs φ (okOf st.regs φ) w) parts Parts.toList) :
    ∃ V w' φ', (Instr.buildSlice t len Parts).run cx.P w = .ok V w' ∧ RelF cx φ' { st with regs := e.app st.regs } a w' ∧ SVRel (e.app st.regs) φ' (okOf (e.app st.regs) φ') w' v V := by
  unfold buildSliceV at h
  split at h
  · rename_i e0 hu
    split at h
    · rename_i τ hzt
      split at h
      · rename_i hc
        obtain ⟨hlim, hsz1⟩ := hc
        rw [Option.map_eq_some_iff] at h
        obtain ⟨⟨xs, l⟩, hs, e1⟩ := h
        simp only [Prod.mk.injEq] at e1
        obtain ⟨rfl, rfl⟩ := e1
        obtain ⟨i, z, hi, hz, hsz, hzc, ha⟩ := (zty_spec hzt).ex
        have hzl : z.cells.size = τ.sz := by rw [← Array.length_toList, hzc, τ.zero_length]
        have hzc' : z.cells = τ.zero.toArray := by rw [← hzc]
        have hr0 : (Ty.arr len τ).rd (okOf (dels st.regs l) φ) w (Ty.arr len τ).dflt (fun j => (madeCells z.cells (len * τ.sz))[j]?) := by
          refine ⟨by simp [Ty.dflt], fun k hk => ?_⟩
          have hk' : k < len := by simpa [Ty.dflt] using hk
          have e1 : (Ty.arr len τ).dflt[k]'hk = τ.dflt := by simp [Ty.dflt]
          rw [e1]
          refine Ty.rd_congr _ _ _ _ (fun j hj => ?_) (Ty.rd_zero _ _ τ)
          show τ.zero[j]? = (madeCells z.cells (len * τ.sz))[k * τ.sz + j]?
          rw [hzc', made_get _ _ _ (by rw [τ.zero_length]; omega) (mul_lt_of hk' hj), τ.zero_length, Nat.mul_comm k τ.sz, Nat.mul_add_mod, Nat.mod_eq_of_lt hj]
        obtain ⟨cells', f1, f2, f3⟩ := setParts_sound R l parts Parts.toList _ xs l _ hs (fun r hr => hr) hp (by rw [size_madeCells]; rfl) hr0
        have hrun : (Instr.buildSlice t len Parts).run cx.P w = .ok (.slice (some ⟨w.heap.size, 0, none⟩) len len) (w.alloc (.cells cells' e0)) := by
          have hnl : ¬ (16777216 < len * τ.sz) := by omega
          have hz' : (zeroValue e0).run cx.P w = .ok z w := by simp [zeroValue, typeInfo, hi, hz]
          have hs' : sizeT cx.P e0 = some τ.sz := (zty_spec hzt).size
          have f1' : Instr.fill (fun i => some (i * τ.sz, τ.sz)) (madeCells z.cells (len * τ.sz)) Parts.toList = some cells' := f1
          by_cases hn : len * τ.sz = 0
          · have hm : madeCells z.cells (len * τ.sz) = #[] := by rw [hn]; simp [madeCells]
            rw [hm] at f1'
            simp [Instr.buildSlice, run_underlying hu, run_sizeOf hs', hn, newRow, Array.range_zero', f1']
          · unfold madeCells at f1'
            simp [Instr.buildSlice, run_underlying hu, run_sizeOf hs', hnl, hn, newRow, hz', f1']
        have R1 := R.dels l
        have hf1 : FreshN cx { st with regs := dels st.regs l } n := ⟨⟨by show look (dels st.regs l) n = none; rw [look_dels]; split; rfl; exact hf.1.1, hf.1.2⟩, hf.2⟩
        have hxl : List.length xs = len := f3.1
        have R2 := R1.new hf1 (.row τ (xs : List τ.den)) cells' e0 (0, 0) 0 len (fun w' hw' => by
          refine ⟨Nat.le_of_eq hxl, ?_⟩
          refine ⟨_, e0, _, hw', thaw0 _, ?_, fun k hk => ?_⟩
          · rw [f2]; show 0 + len * τ.sz ≤ len * τ.sz; omega
          · refine Ty.rd_congr _ _ _ _ (fun j hj => ?_) (f3.2 k hk)
            show _ = cells'[0 + k * τ.sz + j]?
            rw [Nat.zero_add])
        refine ⟨_, _, setLoc φ n ⟨some w.heap.size, 0, len⟩, hrun, ?_, ?_⟩
        · rw [app_dels]; exact R2
        · rw [app_dels]
          exact sl_new (u := τ) (xs := (xs : List τ.den)) (by rw [Eff.app, Eff.app, EffI.app, look_upd, if_pos rfl]) (by rw [hxl]; simp [setLoc, Loc.addr])
      · cases h
    · cases h
  · cases h

/-! ### the lesser, the greater -/
def lesser (g : Bool) (a b : Int) : Int := if g then (if b > a then b else a) else (if b < a then b else a)
def minStep (g : Bool) (k : IntKind) (m : Int) : List SV → Option Int
  | [] => some m
  | .val (.int k') b :: rest => if k = k' then minStep g k (lesser g m b) rest else none
  | _ => none
def minV' (g : Bool) : List SV → Option SV
  | .val (.int k) a :: rest => (minStep g k a rest).map (vI k)
  | _ => none
theorem minStep_sound {P : Program} {rs : Regs} {φ : Phi} {ok : Nat → Prop} {w : World} {k : IntKind} (g : Bool) : ∀ (xs : List SV) (Xs : List Value) (m z : Int), minStep g k m xs = some z → All2 (SVRel rs φ ok w) xs Xs →
    (Xs.foldlM (if g then Builtin.max2 else Builtin.min2) (Value.int k m)).run P w = .ok (.int k z) w := by
  intro xs
  induction xs with
  | nil => intro Xs m z h hx; cases hx; simp [minStep] at h; subst h; simp
  | cons x xs ih =>
    intro Xs m z h hx
    cases hx with
    | cons hv ht =>
      unfold minStep at h
      split at h
      · rename_i heq; cases heq
      · rename_i k' b rest heq
        cases heq
        split at h
        · rename_i hk
          subst hk
          have eV := VRel.int_eq hv
          subst eV
          have := ih _ _ _ h ht
          cases g
          · simpa [List.foldlM_cons, Builtin.min2, lesser] using this
          · simpa [List.foldlM_cons, Builtin.max2, lesser] using this
        · cases h
      · cases h
theorem minV_sound {P : Program} {rs : Regs} {φ : Phi} {ok : Nat → Prop} {w : World} {ts : Array TypeId} {t : TypeId} {xs : List SV} {Xs : Array Value} {v : SV} (g : Bool) (h : minV' g xs = some v) (hx : All2 (SVRel rs φ ok w) xs Xs.toList) :
    ∃ V, ((if g then Builtin.max_ else Builtin.min_) ts t Xs).run P w = .ok V w ∧ SVRel rs φ ok w v V := by
  unfold minV' at h
  split at h
  · rename_i k a rest
    rw [Option.map_eq_some_iff] at h
    obtain ⟨z, hz, rfl⟩ := h
    cases hX : Xs.toList with
    | nil => rw [hX] at hx; cases hx
    | cons X Xs' =>
      rw [hX] at hx
      cases hx with
      | cons hv ht =>
        have eV := VRel.int_eq hv
        subst eV
        have := minStep_sound (P := P) g _ _ _ _ hz ht
        refine ⟨_, ?_, VRel.of_int _ _ _ _⟩
        cases g
        · show (Builtin.min_ ts t Xs).run P w = _
          simp only [Builtin.min_, hX]
          exact this
        · show (Builtin.max_ ts t Xs).run P w = _
          simp only [Builtin.max_, hX]
          exact this
  · cases h

end Go.Lift
