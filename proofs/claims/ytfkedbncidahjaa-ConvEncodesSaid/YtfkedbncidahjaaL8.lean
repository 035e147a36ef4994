/- Appending, abstract, and that it tells what the machine does. -/
import Derived.Test.YtfkedbncidahjaaL7
set_option linter.unusedVariables false
set_option linter.unusedSimpArgs false
namespace Go.Lift
open Go

def strBytes (b : ByteArray) : List Int := b.data.toList.map fun c => (c.toNat : Int)

/-- A slice that is read: its elements' type, its elements. -/
def rowOf (rs : Regs) : SV → Option ((t : Ty) × List t.den)
  | .sl r => match look rs r with
    | some (.row t xs) => some ⟨t, xs⟩
    | _ => none
  | .val (.ro t) xs => some ⟨t, xs⟩
  | _ => none

theorem rowOf_sound {cx : Cx} {φ : Phi} {st : St} {a : Act} {w : World} (R : RelF cx φ st a w) {x : SV} {t : Ty} {xs : List t.den} {X : Value}
    (h : rowOf st.regs x = some ⟨t, xs⟩) (hx : SVRel st.regs φ (okOf st.regs φ) w x X) :
    ∃ ad cap, X = .slice ad xs.length cap ∧ xs.length ≤ cap ∧ (xs = [] ∨ ∃ b off cs ty fz, ad = some ⟨b, off, none⟩ ∧ w.heap[b]? = some (.cells cs ty fz) ∧
      ∀ i (h : i < xs.length), t.rd (okOf st.regs φ) w xs[i] (fun j => cs[off + i * t.sz + j]?)) := by
  unfold rowOf at h
  split at h
  · rename_i r
    split at h
    · rename_i t' xs' hl
      cases h
      have hX := hx _ _ hl
      have h2 := R.rg r _ hl
      refine ⟨_, _, hX, h2.1, ?_⟩
      have h3 := h2.2
      cases hbl : (φ r).blk with
      | none =>
        simp only [hbl] at h3
        left
        have h4 : xs.length ≤ (φ r).cap := h2.1
        exact List.length_eq_zero_iff.1 (by omega)
      | some b =>
        simp only [hbl] at h3
        obtain ⟨cs, ty, fz, e1, _, _, e4⟩ := h3
        exact .inr ⟨b, (φ r).off, cs, ty, fz, by simp [Loc.addr, hbl], e1, e4⟩
    · cases h
  · rename_i t' xs'
    cases h
    have hV : VRel _ _ _ _ _ := hx
    obtain ⟨a0, cap, g0, g1, g2⟩ := hV.1
    rw [hV.cells_one rfl] at g0
    have hX : X = .slice a0 (List.length xs) cap := by simpa using g0
    refine ⟨a0, cap, hX, g1, ?_⟩
    rcases g2 with g2 | ⟨b, off, cs, ty, fz, f1, f2, f3, f4⟩
    · exact .inl g2
    · exact .inr ⟨b, off, cs, ty, fz, f1, f3, f4⟩
  · cases h

/-- The cells that a slice's first elements have. -/
structure Cells (ok : Nat → Prop) (w : World) (t : Ty) (xs : List t.den) (cs : List Value) : Prop where
  len : cs.length = xs.length * t.sz
  one : ∀ c ∈ cs, c.oneCell' = true
  rd : ∀ i (h : i < xs.length), t.rd ok w xs[i] (fun j => cs[i * t.sz + j]?)

theorem Cells.nil (ok : Nat → Prop) (w : World) (t : Ty) : Cells ok w t [] [] := ⟨by simp, by simp, by simp⟩

theorem cells_of {ok : Nat → Prop} {w : World} {t : Ty} {xs : List t.den} {cs : Array Value} {off : Nat}
    (h : ∀ i (h : i < xs.length), t.rd ok w xs[i] (fun j => cs[off + i * t.sz + j]?)) :
    Cells ok w t xs ((List.range (xs.length * t.sz)).map fun j => (cs[off + j]?).getD undef) ∧ ∀ j, j < xs.length * t.sz → cs[off + j]? = some ((cs[off + j]?).getD undef) := by
  have key : ∀ j, j < xs.length * t.sz → ∃ v, cs[off + j]? = some v ∧ v.oneCell' = true := by
    intro j hj
    have hs : 0 < t.sz := by
      rcases Nat.eq_zero_or_pos t.sz with h0 | h0
      · rw [h0] at hj; simp at hj
      · exact h0
    have hd : j / t.sz < xs.length := Nat.div_lt_of_lt_mul (by rw [Nat.mul_comm]; exact hj)
    obtain ⟨v, hv, h1⟩ := Ty.rd_cell t _ _ (h (j / t.sz) hd) (j % t.sz) (Nat.mod_lt _ hs)
    have hv' : cs[off + j / t.sz * t.sz + j % t.sz]? = some v := hv
    rw [Nat.add_assoc, Nat.mul_comm, Nat.div_add_mod] at hv'
    exact ⟨v, hv', h1⟩
  refine ⟨⟨by simp, ?_, ?_⟩, ?_⟩
  · intro c hc
    simp only [List.mem_map, List.mem_range] at hc
    obtain ⟨j, hj, e⟩ := hc
    obtain ⟨v, hv, h1⟩ := key j hj
    rw [hv] at e
    subst e
    exact h1
  · intro i hi
    refine Ty.rd_congr _ _ _ _ (fun j hj => ?_) (h i hi)
    have hlt := mul_lt_of hi hj
    obtain ⟨v, hv, _⟩ := key _ hlt
    simp only [← Nat.add_assoc] at hv ⊢
    simp [hlt, ← Nat.add_assoc, hv]
  · intro j hj
    obtain ⟨v, hv, _⟩ := key j hj
    rw [hv]; rfl

theorem run_firstCells {P : Program} {cx : Cx} {φ : Phi} {st : St} {a : Act} {w : World} (R : RelF cx φ st a w) {x : SV} {t : Ty} {xs : List t.den} {X : Value}
    (h : rowOf st.regs x = some ⟨t, xs⟩) (hx : SVRel st.regs φ (okOf st.regs φ) w x X) :
    ∃ cs : List Value, (∀ w' : World, w'.heap = w.heap → (Builtin.firstCells t.sz xs.length X).run P w' = .ok cs.toArray w') ∧ Cells (okOf st.regs φ) w t xs cs := by
  obtain ⟨ad, cap, rfl, _, h2⟩ := rowOf_sound R h hx
  rcases h2 with h2 | ⟨b, off, cs, ty, fz, e1, e2, e3⟩
  · subst h2
    refine ⟨[], fun w' _ => ?_, Cells.nil _ _ _⟩
    cases ad <;> simp [Builtin.firstCells, loadCells, loadCellsFrom]
  · subst e1
    obtain ⟨hC, hget⟩ := cells_of e3
    refine ⟨_, fun w' hw' => ?_, hC⟩
    have := run_loadCells (P := P) w' ⟨b, off, none⟩ (xs.length * t.sz) (fun j => (cs[off + j]?).getD undef) (fun j hj => by
      rw [add_mk]
      simp [World.cell?, hw', e2, ← hget j hj])
    simp only [Builtin.firstCells, this]

theorem Cells.append {ok : Nat → Prop} {w : World} {t : Ty} {xs ys : List t.den} {cs ds : List Value} (h : Cells ok w t xs cs) (k : Cells ok w t ys ds) : Cells ok w t (xs ++ ys) (cs ++ ds) := by
  refine ⟨by simp [h.len, k.len, Nat.add_mul], ?_, ?_⟩
  · intro c hc
    rcases List.mem_append.1 hc with hc | hc
    · exact h.one c hc
    · exact k.one c hc
  · intro i hi
    by_cases hx : i < xs.length
    · have e : (xs ++ ys)[i]'hi = xs[i] := List.getElem_append_left hx
      rw [e]
      refine Ty.rd_congr _ _ _ _ (fun j hj => ?_) (h.rd i hx)
      have := mul_lt_of hx hj
      rw [List.getElem?_append_left (by rw [h.len]; exact this)]
    · have hi' : i - xs.length < ys.length := by simp at hi; omega
      have e : (xs ++ ys)[i]'hi = ys[i - xs.length] := List.getElem_append_right (by omega)
      rw [e]
      refine Ty.rd_congr _ _ _ _ (fun j hj => ?_) (k.rd _ hi')
      have hle : xs.length * t.sz ≤ i * t.sz := Nat.mul_le_mul_right _ (by omega)
      rw [List.getElem?_append_right (by rw [h.len]; omega), h.len]
      congr 1
      rw [Nat.sub_mul]
      omega

theorem growBy_le (n : Nat) (hn : 256 ≤ n) : ∀ (r c : Nat), c ≤ 2 * n → Builtin.growBy n r c ≤ 2 * n := by
  intro r
  induction r with
  | zero => intro c hc; simpa [Builtin.growBy] using hc
  | succ r ih =>
    intro c hc
    simp only [Builtin.growBy]
    split
    · exact hc
    · exact ih _ (by omega)
theorem nextcap_le (n c : Nat) (h : c < n) : Builtin.nextslicecap n c ≤ 2 * n := by
  unfold Builtin.nextslicecap
  split
  · omega
  · split
    · omega
    · exact growBy_le n (by omega) 4 c (by omega)

def source (P : Program) (rs : Regs) (xT : TypeId) (τ : Ty) (x : SV) : Option (List τ.den) :=
  match P.underlying xT with
  | some .string => match x with
    | .val .str b => castTy (.ro (.int .u8)) (.ro τ) (strBytes b)
    | _ => none
  | some (.slice _) => match x with
    | .nilsl => some []
    | x => match rowOf rs x with
      | some ⟨t, xs⟩ => castTy (.ro t) (.ro τ) xs
      | none => none
  | _ => none

theorem source_sound {cx : Cx} {φ : Phi} {st : St} {a : Act} {w : World} (R : RelF cx φ st a w) {xT : TypeId} {τ : Ty} {x : SV} {ys : List τ.den} {X : Value}
    (h : source cx.P st.regs xT τ x = some ys) (hx : SVRel st.regs φ (okOf st.regs φ) w x X) :
    (cx.P.underlying xT = some .string ∨ ∃ e', cx.P.underlying xT = some (.slice e')) ∧ (Builtin.lenOf X).run cx.P w = .ok ys.length w ∧
    ∃ cs : List Value, (∀ w' : World, w'.heap = w.heap → (Builtin.firstCells τ.sz ys.length X).run cx.P w' = .ok cs.toArray w') ∧ Cells (okOf st.regs φ) w τ ys cs := by
  unfold source at h
  split at h
  · rename_i hu
    split at h
    · rename_i b
      have eX : X = .string b := VRel.str_eq hx
      subst eX
      obtain ⟨e1, e2⟩ := castTy_some h
      cases e1
      have e2 : strBytes b = ys := e2
      subst e2
      have hlen : (strBytes b).length = b.size := by simp [strBytes]
      refine ⟨.inl hu, by simp [Builtin.lenOf, hlen], b.data.toList.map (fun c => Value.int .u8 c.toNat), fun w' _ => ?_, ⟨by simp [Ty.sz, strBytes], ?_, ?_⟩⟩
      · have : b.extract 0 b.size = b := by
          apply ByteArray.ext
          simp
        simp only [Builtin.firstCells, hlen, this, Sem.run_pure]
        congr 1
        apply Array.ext'
        simp
      · intro c hc
        simp only [List.mem_map] at hc
        obtain ⟨d, _, rfl⟩ := hc
        rfl
      · intro i hi
        have hi' : i < b.data.toList.length := by simpa [strBytes] using hi
        show _ = _
        simp [Ty.sz, strBytes, List.getElem?_eq_getElem hi']
    · cases h
  · rename_i e hu
    split at h
    · cases h
      have hX : X = .slice none 0 0 := hx
      subst hX
      exact ⟨.inr ⟨_, hu⟩, by simp [Builtin.lenOf], [], by simp [Builtin.firstCells], Cells.nil _ _ _⟩
    · split at h
      · rename_i t xs hr
        obtain ⟨e1, e2⟩ := castTy_some h
        cases e1
        have e2 : xs = ys := e2
        subst e2
        obtain ⟨cs, hc, hC⟩ := run_firstCells (P := cx.P) R hr hx
        obtain ⟨ad, cap, rfl, _, _⟩ := rowOf_sound R hr hx
        exact ⟨.inr ⟨_, hu⟩, by simp [Builtin.lenOf], cs, hc, hC⟩
      · cases h
  · cases h

def appendV (P : Program) (rs : Regs) (sT xT : TypeId) (s x : SV) (n : Nat) : Option (List Prop × SV × Eff) :=
  match P.underlying sT with
  | some (.slice e) => match zty P e, bytesT P e with
    | some τ, some by_ => match source P rs xT τ x with
      | some ys => if 1 ≤ by_ then
          match s with
          | .nilsl => some ([ys.length * by_ ≤ 140737488355328], .sl n, [.set none n (.row τ ys)])
          | .sl r => match look rs r with
            | some (.row τ' xs) => match castTy (.ro τ') (.ro τ) xs with
              | some xs => some ([(List.length xs + ys.length) * by_ ≤ 140737488355328], .sl n, [.set (some r) n (.row τ (List.append xs ys))])
              | none => none
            | _ => none
          | _ => none
        else none
      | none => none
    | _, _ => none
  | _ => none

def backTo (base : Option Addr) (k : Nat) (vs : List Value) : Sem Unit :=
  match base with
  | some a => storeCells (a.add k) vs
  | none => pure ()

/-- The machine's append, in the two ways it may go. -/
theorem run_append_cases {P : Program} {w : World} {sT xT ty e : TypeId} {i : TypeInfo} {z : Value} {base : Option Addr} {sLen sCap m : Nat} {X : Value} {new old : List Value}
    (hu : P.underlying sT = some (.slice e)) (hi : P.info? e = some i) (hz : i.zero = some z) (hd : P.underlying xT = some .string ∨ ∃ e', P.underlying xT = some (.slice e'))
    (hb : 1 ≤ i.bytes) (hlen : (Builtin.lenOf X).run P w = .ok m w) (hnew : ∀ w' : World, w'.heap = w.heap → (Builtin.firstCells i.size m X).run P w' = .ok new.toArray w')
    (hold : ∀ w' : World, w'.heap = w.heap → (Builtin.firstCells i.size sLen (.slice base sLen sCap)).run P w' = .ok old.toArray w')
    (hroom : (sLen + m) * i.bytes ≤ 140737488355328) :
    (sLen + m ≤ sCap → (Builtin.append_ #[sT, xT] ty #[.slice base sLen sCap, X]).run P w =
      ((backTo base (sLen * i.size) new).run P w).andThen fun _ w' => .ok (.slice base (sLen + m) sCap) w') ∧
    (sCap < sLen + m → ∃ (cap : Nat) (rest : List Value) (w1 : World), sLen + m ≤ cap ∧ rest.length = (cap - (sLen + m)) * z.cells.size ∧ w1.heap = w.heap ∧ w1.os = w.os ∧ w1.tape = w.tape ∧ w1.output = w.output ∧
      (Builtin.append_ #[sT, xT] ty #[.slice base sLen sCap, X]).run P w = .ok (.slice (some ⟨w.heap.size, 0, none⟩) (sLen + m) cap) (w1.alloc (.cells (old.toArray ++ (new.toArray ++ rest.toArray)) e))) := by
  have hty : (typeInfo e).run P w = .ok i w := by simp [typeInfo, hi]
  have hsz : ∀ w, (sizeOf e).run P w = .ok i.size w := fun w => by simp [sizeOf, typeInfo, hi]
  constructor
  · intro hle
    have hn := hnew w rfl
    rcases hd with hd | ⟨e', hd⟩ <;> cases base <;> simp [backTo, Builtin.append_, run_underlying hu, hsz, run_underlying hd, hlen, hle, hn]
  · intro hlt
    have hcap : Builtin.nextslicecap (sLen + m) sCap * i.bytes ≤ 281474976710656 := by
      have h1 := nextcap_le (sLen + m) sCap hlt
      have h2 : Builtin.nextslicecap (sLen + m) sCap * i.bytes ≤ 2 * (sLen + m) * i.bytes := Nat.mul_le_mul_right _ h1
      rw [Nat.mul_assoc] at h2
      omega
    have hb0 : ¬ i.bytes = 0 := by omega
    have n1 : ¬ sLen + m ≤ sCap := by omega
    have n2 : ¬ (281474976710656 < Builtin.nextslicecap (sLen + m) sCap * i.bytes) := by omega
    let q := Question.appendCap (sLen + m) sCap e
    have hcut : sLen + m ≤ q.cut (w.tape w.drawn q) := by
      show sLen + m ≤ (sLen + m) + _
      omega
    refine ⟨q.cut (w.tape w.drawn q), (Builtin.zeroCells z.cells (q.cut (w.tape w.drawn q) - (sLen + m))).toList, w.drew, hcut, ?_, rfl, rfl, rfl, rfl, ?_⟩
    · simp [Builtin.zeroCells]
    · have hn := hnew w.drew rfl
      have ho := hold w.drew rfl
      have hz' : ∀ w, (zeroValue e).run P w = .ok z w := fun w => by simp [zeroValue, typeInfo, hi, hz]
      rcases hd with hd | ⟨e', hd⟩ <;> simp [Builtin.append_, run_underlying hu, hsz, run_underlying hd, hlen, n1, typeInfo, hi, hb0, n2, Question.forced, ho, hn, hz', newRow, q]

end Go.Lift
