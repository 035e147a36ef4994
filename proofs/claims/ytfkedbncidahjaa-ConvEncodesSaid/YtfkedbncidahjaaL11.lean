/- Literals of structs, arrays and slices, parts of values, conversions: abstract, and that they tell what the machine does. -/
import Derived.Test.YtfkedbncidahjaaL10
set_option linter.unusedVariables false
set_option linter.unusedSimpArgs false
namespace Go.Lift
open Go

/-! ### parts of values -/
theorem run_part_rd {P : Program} {ok : Nat → Prop} {w : World} {t : TypeId} {u : Ty} {y : u.den} {cs : Array Value} {o : Nat} (hfit : fits P t u = true)
    (hr : u.rd ok w y (fun j => cs[o + j]?)) : ∃ V, (part t cs o).run P w = .ok V w ∧ VRel ok w u y V := by
  have hcell := Ty.rd_cell u y _ hr
  have hagg := fits_agg hfit
  cases hu : u.agg with
  | true =>
    rw [hu] at hagg
    refine ⟨.agg (cs.extract o (o + u.sz)), by simp [part, run_isAgg hagg, run_sizeOf (fits_size hfit)], ?_⟩
    have hsize : u.sz = 0 ∨ o + u.sz ≤ cs.size := by
      rcases Nat.eq_zero_or_pos u.sz with h0 | h0
      · exact .inl h0
      · obtain ⟨v, hv, _⟩ := hcell (u.sz - 1) (by omega)
        have hv' : cs[o + (u.sz - 1)]? = some v := hv
        have := (Array.getElem?_eq_some_iff.1 hv').1
        omega
    have hex : (cs.extract o (o + u.sz)).size = u.sz := by
      rw [Array.size_extract]
      rcases hsize with h0 | h0
      · rw [h0]; omega
      · omega
    refine VRel.of_cells hr hu _ hex (fun j hj => ?_)
    rw [Array.getElem?_extract]
    rw [if_pos (by omega)]
  | false =>
    rw [hu] at hagg
    obtain ⟨v, hv, _⟩ := hcell 0 (by rw [Ty.sz_one hu]; omega)
    have hv' : cs[o]? = some v := by simpa using hv
    exact ⟨v, by simp [part, run_isAgg hagg, hv'], VRel.of_cell hr hu v hv⟩

def fieldV (P : Program) (t : TypeId) (x : SV) (k : Nat) : Option SV :=
  match fieldOf P t k with
  | none => none
  | some (ft, off) => match x with
    | .val t x => match pty t (fpath k) with
      | some u => if fits P ft u = true ∧ poff t (fpath k) = off ∧ t.agg = true then (pget t x (fpath k) u).map (fun y => .val u y) else none
      | none => none
    | _ => none
theorem fieldV_sound {P : Program} {rs : Regs} {φ : Phi} {ok : Nat → Prop} {w : World} {t : TypeId} {k : Nat} {x v : SV} {X : Value}
    (h : fieldV P t x k = some v) (hx : SVRel rs φ ok w x X) : ∃ V, (Instr.field t X k).run P w = .ok V w ∧ SVRel rs φ ok w v V := by
  unfold fieldV at h
  split at h
  · cases h
  · rename_i ft off hfo
    split at h
    · rename_i t' x
      split at h
      · rename_i u hp
        split at h
        · rename_i hc
          obtain ⟨hfit, hoff, hagg⟩ := hc
          rw [Option.map_eq_some_iff] at h
          obtain ⟨y, hy, rfl⟩ := h
          have hV : VRel _ _ _ _ _ := hx
          obtain ⟨cs, hcs⟩ : ∃ cs, X = .agg cs := by
            have := hV.2.2
            rw [hagg] at this
            cases X <;> simp [Value.isAgg] at this
            exact ⟨_, rfl⟩
          subst hcs
          have hr := rd_pget _ _ _ _ _ _ hV.1 (pok_fpath k t' u hp) hy
          rw [hoff] at hr
          obtain ⟨V, e1, e2⟩ := run_part_rd (P := P) (cs := cs) hfit hr
          refine ⟨V, ?_, e2⟩
          unfold fieldOf at hfo
          split at hfo
          · rename_i fs hu
            rw [Option.map_eq_some_iff] at hfo
            obtain ⟨f, hf, e⟩ := hfo
            cases e
            simp [Instr.field, run_underlying hu, hf, asAgg, e1]
          · cases hfo
        · cases h
      · cases h
    · cases h

def indexV (P : Program) (t : TypeId) (x i : SV) : Option (List Prop × SV) :=
  match i with
  | .val (.int _) i =>
    match P.underlying t, x with
    | some .string, .val .str s => some ([0 ≤ i, i < (s.size : Int)], vI .u8 ((strBytes s).getD i.toNat 0))
    | some (.array m e), .val (.arr m' τ) xs => if fits P e τ = true ∧ m = m' then some ([0 ≤ i, i < (m : Int)], .val τ (List.getD xs i.toNat τ.dflt)) else none
    | _, _ => none
  | _ => none
theorem indexV_sound {P : Program} {rs : Regs} {φ : Phi} {ok : Nat → Prop} {w : World} {t : TypeId} {x i v : SV} {vc : List Prop} {X I : Value}
    (h : indexV P t x i = some (vc, v)) (hvc : ∀ p ∈ vc, p) (hx : SVRel rs φ ok w x X) (hi : SVRel rs φ ok w i I) : ∃ V, (Instr.index t X I).run P w = .ok V w ∧ SVRel rs φ ok w v V := by
  unfold indexV at h
  split at h
  · rename_i k n
    have eI : I = .int k n := VRel.int_eq hi
    subst eI
    split at h
    · rename_i s hu
      cases h
      have eX : X = .string s := VRel.str_eq hx
      subst eX
      have h0 : @LE.le Int _ 0 n := hvc _ (by simp)
      have h1 : @LT.lt Int _ n (s.size : Int) := hvc _ (by simp)
      have h2 : Int.toNat n < s.size := by omega
      refine ⟨.int .u8 (s[Int.toNat n]).toNat, ?_, ?_⟩
      · simp only [Instr.index, asIntOf, Sem.run_bind, Sem.run_pure, Result.andThen_ok, run_underlying hu]
        rw [if_pos h0, getElem?_pos s _ h2]
        rfl
      · have e : (strBytes s).getD (Int.toNat n) 0 = ((s[Int.toNat n]).toNat : Int) := by
          have h3 : Int.toNat n < s.data.toList.length := by rw [Array.length_toList]; exact h2
          simp only [strBytes, List.getD_eq_getElem?_getD, List.getElem?_map, List.getElem?_eq_getElem h3, Option.map_some, Option.getD_some]
          rfl
        rw [e]
        exact VRel.of_int _ _ _ _
    · rename_i m e m' τ xs hu
      split at h
      · rename_i hc
        obtain ⟨hfit, rfl⟩ := hc
        cases h
        have h0 : @LE.le Int _ 0 n := hvc _ (by simp)
        have h1 : @LT.lt Int _ n (m : Int) := hvc _ (by simp)
        have hV : VRel _ _ _ _ _ := hx
        obtain ⟨cs, hcs⟩ : ∃ cs, X = .agg cs := by
          have := hV.2.2
          cases X <;> simp [Value.isAgg, Ty.agg] at this
          exact ⟨_, rfl⟩
        subst hcs
        have hl := hV.1.1
        have hi' : Int.toNat n < List.length xs := by omega
        have e : List.getD xs (Int.toNat n) τ.dflt = xs[Int.toNat n] := by simp [List.getD, List.getElem?_eq_getElem hi']
        have hr := hV.1.2 (Int.toNat n) hi'
        obtain ⟨V, e1, e2⟩ := run_part_rd (P := P) (cs := cs) (o := Int.toNat n * τ.sz) hfit hr
        refine ⟨V, ?_, by rw [e]; exact e2⟩
        simp [Instr.index, asIntOf, run_underlying hu, h0, h1, run_sizeOf (fits_size hfit), e1]
      · cases h
    · cases h
  · cases h

/-! ### conversions -/
def convV (P : Program) (src dst : TypeId) (x : SV) : Option SV :=
  match P.underlying dst, x with
  | some (.int k), .val (.int _) n => if (P.underlying src).isSome = true then some (vI k (k.wrap n)) else none
  | some .string, .val .str s => if P.underlying src matches some .string then some (.val .str s) else none
  | _, _ => none
theorem convV_sound {P : Program} {rs : Regs} {φ : Phi} {ok : Nat → Prop} {w : World} {src dst : TypeId} {x v : SV} {X : Value}
    (h : convV P src dst x = some v) (hx : SVRel rs φ ok w x X) : ∃ V, (convert src dst X).run P w = .ok V w ∧ SVRel rs φ ok w v V := by
  unfold convV at h
  split at h
  · rename_i k k' n hd
    split at h
    · rename_i hs
      cases h
      have eX : X = .int k' n := VRel.int_eq hx
      subst eX
      obtain ⟨d, hs⟩ := Option.isSome_iff_exists.1 hs
      exact ⟨_, by simp [convert, run_underlying hd, run_underlying hs, Conv.intToInt], VRel.of_int _ _ _ _⟩
    · cases h
  · rename_i s hd
    split at h
    · rename_i hm
      cases h
      have eX : X = .string s := VRel.str_eq hx
      subst eX
      have hs : P.underlying src = some .string := by
        revert hm
        cases P.underlying src with
        | none => simp
        | some d => cases d <;> simp
      exact ⟨_, by simp [convert, run_underlying hd, run_underlying hs], VRel.of_str _ _ _⟩
    · cases h
  · cases h

/-- string(b) and []byte(s). -/
def strOfV (P : Program) (rs : Regs) (src dst : TypeId) (x : SV) : Option SV :=
  match P.underlying dst, P.underlying src with
  | some .string, some (.slice e) => match P.underlying e with
    | some (.int .u8) => match x with
      | .nilsl => some (vS ByteArray.empty)
      | x => match rowOf rs x with
        | some ⟨.int .u8, xs⟩ => some (vS (strOfNums xs))
        | _ => none
    | _ => none
  | _, _ => none
theorem strOfV_sound {cx : Cx} {φ : Phi} {st : St} {a : Act} {w : World} (R : RelF cx φ st a w) {src dst : TypeId} {x v : SV} {X : Value}
    (h : strOfV cx.P st.regs src dst x = some v) (hx : SVRel st.regs φ (okOf st.regs φ) w x X) : ∃ V, (convert src dst X).run cx.P w = .ok V w ∧ SVRel st.regs φ (okOf st.regs φ) w v V := by
  unfold strOfV at h
  split at h
  · rename_i e hd hs
    split at h
    · rename_i he
      split at h
      · cases h
        have hX : X = .slice none 0 0 := hx
        subst hX
        exact ⟨_, run_convert_bytes_nil w src e hs he 0 0 dst hd, VRel.of_str _ _ _⟩
      · split at h
        · rename_i xs hr
          cases h
          obtain ⟨ad, cap, rfl, _, h2⟩ := rowOf_sound R hr hx
          rcases h2 with h2 | ⟨b, off, cs, ty, fz, e1, e2, e3⟩
          · have hl : List.length xs = 0 := by rw [h2]; rfl
            have hx0 : strOfNums xs = ByteArray.empty := by
              have : xs = [] := h2
              rw [this]; rfl
            refine ⟨.string ByteArray.empty, ?_, by rw [hx0]; exact VRel.of_str _ _ _⟩
            cases ad with
            | none => exact run_convert_bytes_nil w src e hs he _ cap dst hd
            | some ad =>
              rw [run_convert_bytes_string w src dst e _ _ cap hs he hd, run_bytesToString w _ _ cap [] (by rw [hl]; simp [loadCells, loadCellsFrom])]
              simp
          · subst e1
            refine ⟨_, run_convert_bytes_arg w src e hs he b off _ cap xs rfl (fun i hi => ?_) dst hd, VRel.of_str _ _ _⟩
            have := e3 i hi
            have h3 : cs[off + i * 1 + 0]? = some (.int .u8 xs[i]) := this
            have h4 : List.getD xs i (0 : Int) = xs[i] := by simp [List.getD, List.getElem?_eq_getElem hi]
            rw [h4]
            simp only [Nat.mul_one, Nat.add_zero] at h3
            simp [World.cell?, e2, h3]
        · cases h
    · cases h
  · cases h

def bytesV (P : Program) (src dst : TypeId) (x : SV) (n : Nat) : Option (SV × Eff) :=
  match P.underlying src, P.underlying dst with
  | some .string, some (.slice e) => match P.underlying e, x with
    | some (.int .u8), .val .str s => some (.sl n, [.set none n (.row (.int .u8) (strBytes s))])
    | _, _ => none
  | _, _ => none
theorem bytesV_sound {cx : Cx} {φ : Phi} {st : St} {a : Act} {w : World} (R : RelF cx φ st a w) {n : Nat} (hf : FreshN cx st n) {src dst : TypeId} {x v : SV} {e : Eff} {X : Value}
    (h : bytesV cx.P src dst x n = some (v, e)) (hx : SVRel st.regs φ (okOf st.regs φ) w x X) :
    ∃ V w' φ', (convert src dst X).run cx.P w = .ok V w' ∧ RelF cx φ' { st with regs := e.app st.regs } a w' ∧ SVRel (e.app st.regs) φ' (okOf (e.app st.regs) φ') w' v V := by
  unfold bytesV at h
  split at h
  · rename_i e0 hs hd
    split at h
    · rename_i s he
      cases h
      have eX : X = .string s := VRel.str_eq hx
      subst eX
      have hrun := run_bytes_of_string (P := cx.P) w src dst e0 s hs hd he
      have R1 := R.heap (w' := w.drew) rfl rfl rfl rfl
      have hcap : s.size ≤ grownCap w s.size 0 e0 := by
        show s.size ≤ s.size + _
        omega
      have R2 := R1.new hf (.row (.int .u8) (strBytes s)) (bytesRow s (grownCap w s.size 0 e0)) e0 ((bytesRow s (grownCap w s.size 0 e0)).size, (bytesRow s (grownCap w s.size 0 e0)).size + 1) 0 (grownCap w s.size 0 e0)
        (fun w' hw' => by
          have hsize : (bytesRow s (grownCap w s.size 0 e0)).size = grownCap w s.size 0 e0 := by
            have : s.data.size = s.size := rfl
            simp [bytesRow, this]; omega
          refine ⟨by simpa [strBytes] using hcap, ?_⟩
          refine ⟨_, e0, _, hw', ?_, ?_, fun i hi => ?_⟩
          · intro i hi
            have : ¬ (bytesRow s (grownCap w s.size 0 e0)).size ≤ i := by omega
            simp [this]
          · rw [hsize]; simp [Ty.sz]
          · have hi' : i < s.data.size := by simpa [strBytes] using hi
            show (bytesRow s _)[0 + i * 1 + 0]? = _
            simp only [Nat.mul_one, Nat.add_zero, Nat.zero_add, bytesRow, strBytes]
            rw [Array.getElem?_append_left (by simpa using hi'), Array.getElem?_map, Array.getElem?_eq_getElem hi', Option.map_some]
            simp)
      exact ⟨_, _, _, hrun, R2, sl_new (u := .int .u8) (xs := strBytes s) (by rw [Eff.app, Eff.app, EffI.app, look_upd, if_pos rfl]) (by simp [setLoc, Loc.addr, strBytes])⟩
    · cases h
  · cases h

/-! ### the lesser, the greater -/
def minV (greater : Bool) : List SV → Option SV
  | [] => none
  | x :: xs => xs.foldl (fun (m : Option SV) y => match m, y with
      | some (.val (.int k) a), .val (.int k') b => if k = k' then some (vI k (if greater then (if b > a then b else a) else (if b < a then b else a))) else none
      | _, _ => none) (match x with | .val (.int k) a => some (vI k a) | _ => none)

end Go.Lift
