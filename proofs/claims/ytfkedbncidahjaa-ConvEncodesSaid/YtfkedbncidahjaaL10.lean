/- Reslicing, lengths, literals, parts, conversions: abstract, and that they tell what the machine does. -/
import Derived.Test.YtfkedbncidahjaaL9
set_option linter.unusedVariables false
set_option linter.unusedSimpArgs false
namespace Go.Lift
open Go

/-! ### lengths -/
def lenV (P : Program) (rs : Regs) (t : TypeId) (x : SV) : Option SV :=
  match P.underlying t with
  | some .string => match x with
    | .val .str s => some (vI .i64 s.size)
    | _ => none
  | some (.slice _) => match x with
    | .nilsl => some (vI .i64 0)
    | x => match rowOf rs x with
      | some ⟨_, xs⟩ => some (vI .i64 xs.length)
      | none => none
  | _ => none
theorem lenV_sound {cx : Cx} {φ : Phi} {st : St} {a : Act} {w : World} (R : RelF cx φ st a w) {t ty : TypeId} {x v : SV} {X : Value}
    (h : lenV cx.P st.regs t x = some v) (hx : SVRel st.regs φ (okOf st.regs φ) w x X) :
    ∃ V, (Builtin.len_ #[t] ty #[X]).run cx.P w = .ok V w ∧ SVRel st.regs φ (okOf st.regs φ) w v V := by
  unfold lenV at h
  split at h
  · rename_i hu
    split at h
    · rename_i s
      cases h
      have eX : X = .string s := VRel.str_eq hx
      subst eX
      exact ⟨_, by simp [Builtin.len_, run_underlying hu, goInt], VRel.of_int _ _ _ _⟩
    · cases h
  · rename_i e hu
    split at h
    · cases h
      have hX : X = .slice none 0 0 := hx
      subst hX
      exact ⟨_, by simp [Builtin.len_, run_underlying hu, goInt], VRel.of_int _ _ _ _⟩
    · split at h
      · rename_i u xs hr
        cases h
        obtain ⟨ad, cap, rfl, _, _⟩ := rowOf_sound R hr hx
        exact ⟨_, by simp [Builtin.len_, run_underlying hu, goInt], VRel.of_int _ _ _ _⟩
      · cases h
  · cases h

/-! ### reslicing -/
def optI : Option SV → Option (Option Int)
  | none => some none
  | some (.val (.int _) i) => some (some i)
  | _ => none

/-- What the bounds are, and what they must be; n: the length. -/
def cutVC (n : Int) (lo hi mx : Option Int) : List Prop :=
  let l := lo.getD 0
  let h := hi.getD n
  match mx with
  | none => [0 ≤ l, l ≤ h, h ≤ n]
  | some m => [0 ≤ l, l ≤ h, h ≤ m, m ≤ n]

def OptV (o : Option Int) (v : Option Value) : Prop :=
  match o, v with
  | none, none => True
  | some i, some v => ∃ k, v = .int k i
  | _, _ => False
theorem optI_sound {rs : Regs} {φ : Phi} {ok : Nat → Prop} {w : World} {x : Option SV} {o : Option Int} {X : Option Value} (h : optI x = some o)
    (hx : match x, X with | none, none => True | some x, some X => SVRel rs φ ok w x X | _, _ => False) : OptV o X := by
  unfold optI at h
  split at h
  · cases h
    cases X with
    | none => trivial
    | some X => exact hx.elim
  · rename_i k i
    cases h
    cases X with
    | none => exact hx.elim
    | some X => exact ⟨k, VRel.int_eq hx⟩
  · cases h

theorem run_bounds {P : Program} {w : World} {b : Bool} {len cap : Nat} {lo hi mx : Option Int} {Lo Hi Mx : Option Value} (h1 : OptV lo Lo) (h2 : OptV hi Hi) (h3 : OptV mx Mx)
    (hmx : mx.isSome = true → hi.isSome = true) (hlc : len ≤ cap) (hvc : ∀ p ∈ cutVC (len : Int) lo hi mx, p) :
    (Instr.sliceBounds b len cap Lo Hi Mx).run P w = .ok ((lo.getD 0).toNat, (hi.getD (len : Int)).toNat, (mx.getD (cap : Int)).toNat) w := by
  have hb : ∀ (k : IntKind) (i : Int) (y : Nat) (c : BoundsCode), 0 ≤ i → i ≤ (y : Int) → (Instr.sliceBound (.int k i) y c).run P w = .ok i.toNat w := by
    intro k i y c g0 g1
    simp [Instr.sliceBound, asIntOf, g0, g1]
  cases mx with
  | none =>
    cases Mx with
    | some _ => exact h3.elim
    | none =>
      have v0 := hvc _ (List.mem_cons_self ..)
      have v1 := hvc _ (List.mem_cons_of_mem _ (List.mem_cons_self ..))
      have v2 := hvc _ (List.mem_cons_of_mem _ (List.mem_cons_of_mem _ (List.mem_cons_self ..)))
      cases hi with
      | none =>
        cases Hi with
        | some _ => exact h2.elim
        | none =>
          cases lo with
          | none =>
            cases Lo with
            | some _ => exact h1.elim
            | none => simp [Instr.sliceBounds]
          | some l =>
            cases Lo with
            | none => exact h1.elim
            | some L =>
              obtain ⟨k, rfl⟩ := h1
              simp only [Option.getD_some, Option.getD_none] at v0 v1 v2
              simp [Instr.sliceBounds, hb k l len _ v0 v1]
      | some h =>
        cases Hi with
        | none => exact h2.elim
        | some H =>
          obtain ⟨kh, rfl⟩ := h2
          simp only [Option.getD_some] at v1 v2
          have e0 : (0 : Int) ≤ h := Int.le_trans v0 v1
          have e1 : h ≤ (cap : Int) := by omega
          have e2 : (h.toNat : Int) = h := Int.toNat_of_nonneg e0
          cases lo with
          | none =>
            cases Lo with
            | some _ => exact h1.elim
            | none => simp [Instr.sliceBounds, hb kh h cap _ e0 e1]
          | some l =>
            cases Lo with
            | none => exact h1.elim
            | some L =>
              obtain ⟨k, rfl⟩ := h1
              simp only [Option.getD_some] at v0 v1
              simp [Instr.sliceBounds, hb kh h cap _ e0 e1, hb k l h.toNat _ v0 (by omega)]
  | some m =>
    cases Mx with
    | none => exact h3.elim
    | some M =>
      obtain ⟨km, rfl⟩ := h3
      cases hi with
      | none => simp at hmx
      | some h =>
        cases Hi with
        | none => exact h2.elim
        | some H =>
          obtain ⟨kh, rfl⟩ := h2
          have v0 := hvc _ (List.mem_cons_self ..)
          have v1 := hvc _ (List.mem_cons_of_mem _ (List.mem_cons_self ..))
          have v2 := hvc _ (List.mem_cons_of_mem _ (List.mem_cons_of_mem _ (List.mem_cons_self ..)))
          have v3 := hvc _ (List.mem_cons_of_mem _ (List.mem_cons_of_mem _ (List.mem_cons_of_mem _ (List.mem_cons_self ..))))
          simp only [Option.getD_some] at v0 v1 v2 v3
          have e0 : (0 : Int) ≤ h := Int.le_trans v0 v1
          have e1 : (0 : Int) ≤ m := Int.le_trans e0 v2
          have e2 : (h.toNat : Int) = h := Int.toNat_of_nonneg e0
          have e3 : (m.toNat : Int) = m := Int.toNat_of_nonneg e1
          cases lo with
          | none =>
            cases Lo with
            | some _ => exact h1.elim
            | none => simp [Instr.sliceBounds, hb km m cap _ e1 (by omega), hb kh h m.toNat _ e0 (by omega)]
          | some l =>
            cases Lo with
            | none => exact h1.elim
            | some L =>
              obtain ⟨k, rfl⟩ := h1
              simp only [Option.getD_some] at v0 v1
              simp [Instr.sliceBounds, hb km m cap _ e1 (by omega), hb kh h m.toNat _ e0 (by omega), hb k l h.toNat _ v0 (by omega)]

def cutL {α : Type} (xs : List α) (lo hi : Option Int) : List α := (xs.take (hi.getD (xs.length : Int)).toNat).drop (lo.getD 0).toNat

def sliceV (P : Program) (rs : Regs) (t : TypeId) (x : SV) (lo hi mx : Option SV) (n : Nat) : Option (List Prop × SV × Eff) :=
  match optI lo, optI hi, optI mx with
  | some lo, some hi, some mx =>
    if mx.isSome = true ∧ hi.isSome = false then none else
    match P.underlying t with
    | some .string => match x with
      | .val .str s => match mx with
        | none => some (cutVC (s.size : Int) lo hi none, .val .str (s.extract (lo.getD 0).toNat (hi.getD (s.size : Int)).toNat), [])
        | some _ => none
      | _ => none
    | some (.slice e) => match x with
      | .val (.ro τ) xs => if sizeT P e = some τ.sz then some (cutVC (List.length xs : Int) lo hi mx, .val (.ro τ) (cutL (α := τ.den) xs lo hi), []) else none
      | .sl r => match look rs r with
        | some (.row τ xs) => if sizeT P e = some τ.sz then some (cutVC (xs.length : Int) lo hi mx, .sl n, [.set (some r) n (.row τ (cutL xs lo hi))]) else none
        | _ => none
      | _ => none
    | some (.array m e) => match x with
      | .addr r [] => match look rs r with
        | some (.box (.arr m' τ) xs) => if sizeT P e = some τ.sz ∧ m = m' then some (cutVC (m : Int) lo hi mx, .sl n, [.set (some r) n (.row τ (cutL (α := τ.den) xs lo hi))]) else none
        | _ => none
      | _ => none
    | _ => none
  | _, _, _ => none

theorem cutL_get {α : Type} {xs : List α} {lo hi : Option Int} (i : Nat) (h : i < (cutL xs lo hi).length) : ∃ h' : (lo.getD 0).toNat + i < xs.length, (cutL xs lo hi)[i] = xs[(lo.getD 0).toNat + i] := by
  simp only [cutL, List.length_drop, List.length_take] at h
  refine ⟨by omega, ?_⟩
  simp [cutL]
theorem cutVC_bounds {n : Nat} {lo hi mx : Option Int} (h : ∀ p ∈ cutVC (n : Int) lo hi mx, p) : 0 ≤ lo.getD 0 ∧ lo.getD 0 ≤ hi.getD (n : Int) ∧ hi.getD (n : Int) ≤ (n : Int) ∧ (∀ m, mx = some m → hi.getD (n : Int) ≤ m ∧ m ≤ (n : Int)) := by
  cases mx with
  | none =>
    have v0 := h _ (List.mem_cons_self ..)
    have v1 := h _ (List.mem_cons_of_mem _ (List.mem_cons_self ..))
    have v2 := h _ (List.mem_cons_of_mem _ (List.mem_cons_of_mem _ (List.mem_cons_self ..)))
    exact ⟨v0, v1, v2, fun m hm => by cases hm⟩
  | some m =>
    have v0 := h _ (List.mem_cons_self ..)
    have v1 := h _ (List.mem_cons_of_mem _ (List.mem_cons_self ..))
    have v2 := h _ (List.mem_cons_of_mem _ (List.mem_cons_of_mem _ (List.mem_cons_self ..)))
    have v3 := h _ (List.mem_cons_of_mem _ (List.mem_cons_of_mem _ (List.mem_cons_of_mem _ (List.mem_cons_self ..))))
    exact ⟨v0, v1, Int.le_trans v2 v3, fun m' hm => by cases hm; exact ⟨v2, v3⟩⟩

/-- The machine's reslice of a slice of which the block is known. -/
theorem run_slice_cut {P : Program} {w : World} {t e : TypeId} {sz : Nat} {ad : Option Addr} {len cap : Nat} {lo hi mx : Option Int} {Lo Hi Mx : Option Value}
    (hu : P.underlying t = some (.slice e)) (hs : sizeT P e = some sz) (h1 : OptV lo Lo) (h2 : OptV hi Hi) (h3 : OptV mx Mx)
    (hmx : mx.isSome = true → hi.isSome = true) (hlc : len ≤ cap) (hvc : ∀ p ∈ cutVC (len : Int) lo hi mx, p) :
    (Instr.sliceAt t (.slice ad len cap) Lo Hi Mx).run P w =
      .ok (.slice (if (mx.getD (cap : Int)).toNat = (lo.getD 0).toNat then ad else ad.map (·.add ((lo.getD 0).toNat * sz))) ((hi.getD (len : Int)).toNat - (lo.getD 0).toNat) ((mx.getD (cap : Int)).toNat - (lo.getD 0).toNat)) w := by
  have hb := run_bounds (P := P) (w := w) (b := true) h1 h2 h3 hmx hlc hvc
  simp [Instr.sliceAt, run_underlying hu, Instr.slice, hb, run_sizeOf hs]

theorem sliceV_sound {cx : Cx} {φ : Phi} {st : St} {a : Act} {w : World} (R : RelF cx φ st a w) {n : Nat} (hf : FreshN cx st n) {t : TypeId} {x v : SV} {lo hi mx : Option SV} {vc : List Prop} {e : Eff} {X : Value} {Lo Hi Mx : Option Value}
    (h : sliceV cx.P st.regs t x lo hi mx n = some (vc, v, e)) (hvc : ∀ p ∈ vc, p) (hx : SVRel st.regs φ (okOf st.regs φ) w x X)
    (h1 : ∀ o, optI lo = some o → OptV o Lo) (h2 : ∀ o, optI hi = some o → OptV o Hi) (h3 : ∀ o, optI mx = some o → OptV o Mx) :
    ∃ V φ', (Instr.sliceAt t X Lo Hi Mx).run cx.P w = .ok V w ∧ RelF cx φ' { st with regs := e.app st.regs } a w ∧ SVRel (e.app st.regs) φ' (okOf (e.app st.regs) φ') w v V := by
  unfold sliceV at h
  split at h
  · rename_i lo hi mx el eh em
    have h1 := h1 _ el
    have h2 := h2 _ eh
    have h3 := h3 _ em
    split at h
    · cases h
    · rename_i hnm
      have hmx : mx.isSome = true → hi.isSome = true := by
        intro hm
        cases hh : hi.isSome with
        | true => rfl
        | false => exact (hnm ⟨hm, hh⟩).elim
      split at h
      · rename_i hu
        split at h
        · rename_i s
          split at h
          · cases h
            have eX : X = .string s := VRel.str_eq hx
            subst eX
            have hM : Mx = none := by
              cases Mx with
              | none => rfl
              | some _ => exact h3.elim
            subst hM
            have hb := run_bounds (P := cx.P) (w := w) (b := false) h1 h2 h3 hmx (Nat.le_refl _) hvc
            refine ⟨_, φ, ?_, R, VRel.of_str _ _ _⟩
            simp only [Instr.sliceAt, run_underlying hu, Instr.slice, Sem.run_bind, Result.andThen_ok]
            simp [hb]
          · cases h
        · cases h
      · rename_i e0 hu
        split at h
        · rename_i τ xs
          split at h
          · rename_i hs
            cases h
            have hV : VRel _ _ _ _ _ := hx
            obtain ⟨a0, cap, g0, g1, g2⟩ := hV.1
            rw [hV.cells_one rfl] at g0
            have hX : X = .slice a0 (List.length xs) cap := by simpa using g0
            subst hX
            have hrun := run_slice_cut (P := cx.P) (w := w) (ad := a0) (cap := cap) hu hs h1 h2 h3 hmx g1 hvc
            obtain ⟨b0, b1, b2, b3⟩ := cutVC_bounds hvc
            have hlen : (cutL (α := τ.den) xs lo hi).length = (hi.getD (List.length xs : Int)).toNat - (lo.getD 0).toNat := by
              simp only [cutL, List.length_drop, List.length_take]; omega
            have hcap : (hi.getD (List.length xs : Int)).toNat ≤ (mx.getD (cap : Int)).toNat := by
              cases mx with
              | none => simp only [Option.getD_none]; omega
              | some m => have := (b3 m rfl).1; simp only [Option.getD_some]; omega
            refine ⟨_, φ, hrun, R, ⟨⟨_, _, by rw [← hlen]; rfl, by rw [hlen]; omega, ?_⟩, rfl, rfl⟩⟩
            rcases Nat.eq_zero_or_pos (cutL (α := τ.den) xs lo hi).length with hz | hz
            · exact .inl (List.length_eq_zero_iff.1 hz)
            · right
              rcases g2 with g2 | ⟨b, off, cs, ty, fz, f1, f2, f3, f4⟩
              · exfalso
                have hl0 : List.length xs = 0 := by rw [g2]; rfl
                omega
              · subst f1
                have hne : ¬ ((mx.getD (cap : Int)).toNat = (lo.getD 0).toNat) := by omega
                rw [if_neg hne]
                refine ⟨b, off + (lo.getD 0).toNat * τ.sz, cs, ty, fz, by simp [add_mk], f2, f3, fun i hi' => ?_⟩
                obtain ⟨hlt, e1⟩ := cutL_get (α := τ.den) i hi'
                rw [e1]
                refine Ty.rd_congr _ _ _ _ (fun j hj => ?_) (f4 _ hlt)
                congr 1
                rw [Nat.add_mul]
                omega
          · cases h
        · rename_i r
          split at h
          · rename_i τ xs hl
            split at h
            · rename_i hs
              cases h
              have hX := hx _ _ hl
              subst hX
              have hrg := R.rg r _ hl
              have hxc : xs.length ≤ (φ r).cap := hrg.1
              have hrun := run_slice_cut (P := cx.P) (w := w) (ad := (φ r).addr) (cap := (φ r).cap) hu hs h1 h2 h3 hmx hxc hvc
              obtain ⟨b0, b1, b2, b3⟩ := cutVC_bounds hvc
              have hlen : (cutL xs lo hi).length = (hi.getD (xs.length : Int)).toNat - (lo.getD 0).toNat := by
                simp only [cutL, List.length_drop, List.length_take]; omega
              have hcap : (hi.getD (xs.length : Int)).toNat ≤ (mx.getD ((φ r).cap : Int)).toNat ∧ (mx.getD ((φ r).cap : Int)).toNat ≤ (φ r).cap := by
                cases mx with
                | none => simp only [Option.getD_none]; omega
                | some m => have := (b3 m rfl); simp only [Option.getD_some]; omega
              have h3' := hrg.2
              by_cases hne : (mx.getD ((φ r).cap : Int)).toNat = (lo.getD 0).toNat
              · rw [if_pos hne] at hrun
                refine ⟨_, setLoc φ n ⟨(φ r).blk, (φ r).off, (mx.getD ((φ r).cap : Int)).toNat - (lo.getD 0).toNat⟩, hrun, ?_, ?_⟩
                · refine R.step (w' := w) (some r) n (.row τ (cutL xs lo hi)) _ (fun b hb => .inr ⟨r, _, rfl, hl, hb⟩) (fun b _ _ => rfl) (.inl hf.1) (fun l0 hl => (hf.2 l0 hl).elim) ?_ rfl rfl rfl (Nat.le_refl _)
                  refine ⟨by show (cutL xs lo hi).length ≤ _; rw [hlen]; show _ ≤ (mx.getD ((φ r).cap : Int)).toNat - _; omega, ?_⟩
                  cases hbl : (φ r).blk with
                  | none => simp only [hbl] at h3' ⊢; omega
                  | some b =>
                    simp only [hbl] at h3' ⊢
                    obtain ⟨cs, ty, fz, f1, f2, f3, f4⟩ := h3'
                    refine ⟨cs, ty, fz, f1, f2, ?_, fun i hi' => ?_⟩
                    · rw [hne]; simp only [Nat.sub_self, Nat.zero_mul, Nat.add_zero]
                      have := Nat.zero_le ((φ r).cap * τ.sz); omega
                    · rw [hlen] at hi'; omega
                · exact sl_new (u := τ) (xs := cutL xs lo hi) (by rw [Eff.app, Eff.app, EffI.app, look_upd, if_pos rfl]) (by simp [setLoc, Loc.addr, hlen])
              · rw [if_neg hne] at hrun
                refine ⟨_, setLoc φ n ⟨(φ r).blk, (φ r).off + (lo.getD 0).toNat * τ.sz, (mx.getD ((φ r).cap : Int)).toNat - (lo.getD 0).toNat⟩, hrun, ?_, ?_⟩
                · refine R.step (w' := w) (some r) n (.row τ (cutL xs lo hi)) _ (fun b hb => .inr ⟨r, _, rfl, hl, hb⟩) (fun b _ _ => rfl) (.inl hf.1) (fun l0 hl => (hf.2 l0 hl).elim) ?_ rfl rfl rfl (Nat.le_refl _)
                  refine ⟨by show (cutL xs lo hi).length ≤ _; rw [hlen]; show _ ≤ (mx.getD ((φ r).cap : Int)).toNat - _; omega, ?_⟩
                  cases hbl : (φ r).blk with
                  | none => simp only [hbl] at h3' ⊢; omega
                  | some b =>
                    simp only [hbl] at h3' ⊢
                    obtain ⟨cs, ty, fz, f1, f2, f3, f4⟩ := h3'
                    refine ⟨cs, ty, fz, f1, f2, ?_, fun i hi' => ?_⟩
                    · have h4 : (mx.getD ((φ r).cap : Int)).toNat * τ.sz ≤ (φ r).cap * τ.sz := Nat.mul_le_mul_right _ hcap.2
                      have h5 : (lo.getD 0).toNat * τ.sz ≤ (mx.getD ((φ r).cap : Int)).toNat * τ.sz := Nat.mul_le_mul_right _ (by omega)
                      rw [Nat.sub_mul]
                      omega
                    · obtain ⟨hlt, e1⟩ := cutL_get i hi'
                      rw [e1]
                      refine Ty.rd_congr _ _ _ _ (fun j hj => ?_) (f4 _ hlt)
                      congr 1
                      rw [Nat.add_mul]
                      omega
                · refine sl_new (u := τ) (xs := cutL xs lo hi) (by rw [Eff.app, Eff.app, EffI.app, look_upd, if_pos rfl]) ?_
                  cases hbl : (φ r).blk <;> simp [setLoc, Loc.addr, hlen, hbl, add_mk]
            · cases h
          · cases h
        · cases h
      · rename_i m e0 hu
        split at h
        · rename_i r
          split at h
          · rename_i m' τ xs hl
            split at h
            · rename_i hc
              obtain ⟨hs, rfl⟩ := hc
              cases h
              obtain ⟨b, g1, g2, g3⟩ := hx _ hl
              simp only [poff] at g3
              subst g3
              obtain ⟨f0, b', cs, ty, fz, f1, f2, f3, f4, f5⟩ := R.rg r _ hl
              rw [g1] at f1; cases f1
              have hb := run_bounds (P := cx.P) (w := w) (b := false) h1 h2 h3 hmx (Nat.le_refl m) hvc
              obtain ⟨b0, b1, b2, b3⟩ := cutVC_bounds hvc
              have hxl : List.length xs = m := f5.1
              have hlen : (cutL (α := τ.den) xs lo hi).length = (hi.getD (m : Int)).toNat - (lo.getD 0).toNat := by
                simp only [cutL, List.length_drop, List.length_take, hxl]; omega
              have hcap : (hi.getD (m : Int)).toNat ≤ (mx.getD (m : Int)).toNat ∧ (mx.getD (m : Int)).toNat ≤ m := by
                cases mx with
                | none => simp only [Option.getD_none]; omega
                | some k => have := (b3 k rfl); simp only [Option.getD_some]; omega
              have hsz : cs.size = m * τ.sz := f4
              have hrun : (Instr.sliceAt t (.pointer (some ⟨b, 0, none⟩)) Lo Hi Mx).run cx.P w =
                  .ok (.slice (some ⟨b, if (mx.getD (m : Int)).toNat = (lo.getD 0).toNat then 0 else (lo.getD 0).toNat * τ.sz, none⟩) ((hi.getD (m : Int)).toNat - (lo.getD 0).toNat) ((mx.getD (m : Int)).toNat - (lo.getD 0).toNat)) w := by
                simp only [Instr.sliceAt, run_underlying hu, Sem.run_bind, Result.andThen_ok, Instr.sureAddr, Sem.run_pure, hb, run_sizeOf hs]
                split <;> simp [add_mk]
              refine ⟨_, setLoc φ n ⟨some b, if (mx.getD (m : Int)).toNat = (lo.getD 0).toNat then 0 else (lo.getD 0).toNat * τ.sz, (mx.getD (m : Int)).toNat - (lo.getD 0).toNat⟩, hrun, ?_, ?_⟩
              · refine R.step (w' := w) (some r) n (.row τ (cutL (α := τ.den) xs lo hi)) _ (fun b0 hb0 => .inr ⟨r, _, rfl, hl, by cases hb0; exact g1⟩) (fun b _ _ => rfl) (.inl hf.1) (fun l0 hl => (hf.2 l0 hl).elim) ?_ rfl rfl rfl (Nat.le_refl _)
                refine ⟨by show (cutL (α := τ.den) xs lo hi).length ≤ _; rw [hlen]; show _ ≤ (mx.getD (m : Int)).toNat - _; omega, ?_⟩
                refine ⟨cs, ty, fz, f2, f3, ?_, fun i hi' => ?_⟩
                · have h4 : (mx.getD (m : Int)).toNat * τ.sz ≤ m * τ.sz := Nat.mul_le_mul_right _ hcap.2
                  have h5 : (lo.getD 0).toNat * τ.sz ≤ (mx.getD (m : Int)).toNat * τ.sz := Nat.mul_le_mul_right _ (by omega)
                  have key : ∀ A B C : Nat, A ≤ B → B ≤ C → A + (B - A) ≤ C ∧ 0 + (B - A) ≤ C := by intro A B C h1 h2; omega
                  show (if _ then 0 else _) + _ ≤ _
                  rw [Nat.sub_mul, hsz]
                  split
                  · exact (key _ _ _ h5 h4).2
                  · exact (key _ _ _ h5 h4).1
                · have hi2 := hi'
                  rw [hlen] at hi2
                  rw [if_neg (by omega)]
                  obtain ⟨hlt, e1⟩ := cutL_get (α := τ.den) i hi'
                  rw [e1]
                  refine Ty.rd_congr _ _ _ _ (fun j hj => ?_) (f5.2 _ hlt)
                  congr 1
                  rw [Nat.add_mul]
              · exact sl_new (u := τ) (xs := cutL (α := τ.den) xs lo hi) (by rw [Eff.app, Eff.app, EffI.app, look_upd, if_pos rfl]) (by simp [setLoc, Loc.addr, hlen])
            · cases h
          · cases h
        · cases h
      · cases h
  · cases h

end Go.Lift
