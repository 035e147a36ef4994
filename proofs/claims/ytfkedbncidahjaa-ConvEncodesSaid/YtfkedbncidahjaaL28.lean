/- What a law's arguments read as. -/
import Derived.Test.YtfkedbncidahjaaL27
import Derived.ChangeArms
import Derived.OpenShut
import Derived.SizedLaws
import Derived.Carry
import Derived.ChangeShapes
import Derived.WideShapes
set_option linter.unusedVariables false
set_option linter.unusedSimpArgs false
namespace Go.Lift
open Go Go.ChangeShapes Go.WideShapes Go.RowKit
/-- In the bounds that data have. -/
def Ty.wfd : (t : Ty) → t.den → Prop
  | .int k, x => (Lit.int k x).wf = true
  | .bool, _ => True
  | .unit, _ => True
  | .str, s => (ByteArray.size s : Int) ≤ 140737488351232
  | .ro t, xs => (List.length xs : Int) ≤ 140737488351232 ∧ ∀ x ∈ (xs : List t.den), t.wfd x
  | .pair a b, x => a.wfd x.1 ∧ b.wfd x.2
  | .arr n t, xs => List.length xs = n ∧ ∀ x ∈ (xs : List t.den), t.wfd x
/-- Is a type of the program laid as its shape says? -/
def layF (f : TypeId → Bool) (ty : TypeId → Option Ty) (P : Program) : Nat → List Field → Bool
  | _, [] => true
  | off, x :: xs => match ty x.type with
    | some τ => decide (x.offset = off) && decide (P.cellsOf x.type = τ.sz) && f x.type && layF f ty P (off + τ.sz) xs
    | none => false
def layB (P : Program) : Nat → TypeId → Bool
  | 0, _ => false
  | n + 1, t => match P.underlying t with
    | some (.int _) => true
    | some .bool => true
    | some .string => true
    | some (.slice e) => match tyOf P n e with
      | some τ => layB P n e && decide (P.cellsOf e = τ.sz) && decide (1 ≤ τ.sz) && decide (1 ≤ P.bytesOf e)
      | none => false
    | some (.array m e) => match tyOf P n e with
      | some τ => layB P n e && decide (P.cellsOf e = τ.sz) && decide (P.cellsOf t = m * τ.sz)
      | none => false
    | some (.struct fs) => match tyFields (tyOf P n) fs.toList with
      | some τ => layF (layB P n) (tyOf P n) P 0 fs.toList && decide (P.cellsOf t = τ.sz)
      | none => false
    | _ => false
theorem cells?_get {w : World} {base : Nat} {a : Addr} {n : Nat} {cs : List Value} (h : w.cells? base a n = some cs) : cs.length = n ∧ ∀ j, j < n → w.cell? (a.add j) = cs[j]? := by
  unfold World.cells? at h
  split at h
  · have hl := mapM_some_length h
    rw [List.length_range] at hl
    refine ⟨hl, fun j hj => ?_⟩
    exact mapM_some_get h j j (by simp [hj])
  · cases h
theorem addr_add {b o k : Nat} : (⟨b, o, none⟩ : Addr).add k = ⟨b, o + k, none⟩ := by
  unfold Addr.add
  split
  · rename_i h; rw [h]; rfl
  · rfl
theorem weights_all {H : Type} {P : Program} {e : TypeId} : ∀ {l : List (DataW H)} {B : Nat}, (∀ m ∈ DataW.weightsAll P e l, m ≤ B) → ∀ d ∈ l, ∀ m ∈ d.weights P e, m ≤ B
  | [], _, _, d, hd => by simp at hd
  | d0 :: l, B, h, d, hd => by
    simp only [DataW.weightsAll, List.mem_append] at h
    rcases List.mem_cons.1 hd with rfl | hd
    · exact fun m hm => h m (.inl hm)
    · exact weights_all (fun m hm => h m (.inr hm)) d hd
theorem choose_list {α : Type} {Q : Nat → α → Prop} : ∀ (n : Nat), (∀ i, i < n → ∃ x, Q i x) → ∃ xs : List α, xs.length = n ∧ ∀ i (h : i < xs.length), Q i xs[i]
  | 0, _ => ⟨[], rfl, fun i h => by simp at h⟩
  | n + 1, h => by
    obtain ⟨xs, hl, hx⟩ := choose_list n fun i hi => h i (by omega)
    obtain ⟨x, hq⟩ := h n (by omega)
    refine ⟨xs ++ [x], by simp [hl], fun i hi => ?_⟩
    by_cases hi2 : i < xs.length
    · rw [List.getElem_append_left hi2]; exact hx i hi2
    · have : i = n := by simp at hi; omega
      subst this
      rw [List.getElem_append_right (by omega)]
      simpa [hl] using hq
section
variable {H : Type} {enc : TypeId × Value → H} {P : Program} {W : World} {base : Nat} {spare : Nat → Bool} {held : Bool}
abbrev okW (W : World) (b : Nat) : Prop := b < W.heap.size
def Reads (P : Program) (enc : TypeId × Value → H) (W : World) (base : Nat) (spare : Nat → Bool) (held : Bool) (t : TypeId) (τ : Ty) : Prop :=
  ∀ fuel cs d ps, DataW.trod enc P W base spare held fuel t cs = some (d, ps) → (∀ m ∈ d.weights P t, m ≤ reachBytes) →
    ∃ x : τ.den, τ.rd (okW W) W x (fun j => cs[j]?) ∧ cs.length = τ.sz ∧ τ.wfd x
theorem drop_take_get {cs : List Value} {o s j : Nat} (h : j < s) : ((cs.drop o).take s)[j]? = cs[o + j]? := by
  rw [List.getElem?_take, if_pos h, List.getElem?_drop]
theorem fields_read {n : Nat} (ih : ∀ t τ, tyOf P n t = some τ → layB P n t = true → Reads P enc W base spare held t τ) (cs : List Value) (m : Nat) :
    ∀ (fs : List Field) (τ : Ty) (off : Nat) (xs : List (DataW H × List MemPlace)), tyFields (tyOf P n) fs = some τ → layF (layB P n) (tyOf P n) P off fs = true → xs.length = fs.length →
    (∀ (i : Nat) f, fs[i]? = some f → DataW.trod enc P W base spare held m f.type ((cs.drop f.offset).take (P.cellsOf f.type)) = xs[i]?) →
    (∀ w ∈ DataW.weightsEach P (fs.map (·.type)) (xs.map (·.1)), w ≤ reachBytes) →
    ∃ x : τ.den, τ.rd (okW W) W x (fun j => cs[off + j]?) ∧ τ.wfd x
  | [], τ, off, xs, ht, _, _, _, _ => by
    simp only [tyFields, Option.some.injEq] at ht
    subst ht
    exact ⟨(), trivial, trivial⟩
  | f :: fs, τ, off, xs, ht, hl, hlen, hx, hw => by
    simp only [tyFields] at ht
    split at ht
    · rename_i a b ha hb
      cases ht
      unfold layF at hl
      rw [ha] at hl
      simp only [Bool.and_eq_true, decide_eq_true_eq] at hl
      obtain ⟨⟨⟨h1, h2⟩, h3⟩, h4⟩ := hl
      cases xs with
      | nil => simp at hlen
      | cons y ys =>
        have hy := hx 0 f rfl
        simp only [List.getElem?_cons_zero] at hy
        obtain ⟨d, ps⟩ := y
        simp only [List.map_cons, DataW.weightsEach, List.mem_append] at hw
        obtain ⟨u, u1, u2, u3⟩ := ih _ _ ha h3 _ _ _ _ hy fun w hm => hw w (.inl hm)
        obtain ⟨v, v1, v3⟩ := fields_read ih cs m fs b (off + a.sz) ys hb h4 (by simpa using hlen) (fun i f' hf => by simpa using hx (i + 1) f' (by simpa using hf)) (fun w hm => hw w (.inr hm))
        refine ⟨(u, v), ⟨?_, ?_⟩, u3, v3⟩
        · refine Ty.rd_congr _ _ _ _ (fun j hj => ?_) u1
          rw [h1, h2]
          exact drop_take_get hj
        · refine Ty.rd_congr _ _ _ _ (fun j hj => ?_) v1
          simp only [Nat.add_assoc]
    · cases ht
theorem reads : ∀ (n : Nat) (t : TypeId) (τ : Ty), tyOf P n t = some τ → layB P n t = true → Reads P enc W base spare held t τ
  | 0, t, τ, h, _ => by simp [tyOf] at h
  | n + 1, t, τ, h, hl => by
    intro fuel cs d ps htr hw
    have ih := reads n
    unfold tyOf at h
    unfold layB at hl
    cases hu : P.underlying t with
    | none => rw [hu] at h; cases h
    | some D =>
      rw [hu] at h hl
      cases D with
      | int k =>
        cases h
        obtain ⟨x, rfl, _, hwf⟩ := DataW.trod_int hu htr
        exact ⟨x, rfl, rfl, hwf⟩
      | bool =>
        cases h
        obtain ⟨x, rfl, _⟩ := DataW.trod_bool hu htr
        exact ⟨x, rfl, rfl, trivial⟩
      | string =>
        cases h
        obtain ⟨x, rfl, hd, _⟩ := DataW.trod_string hu htr
        refine ⟨x, rfl, rfl, ?_⟩
        cases hd
        have := hw x.data.toList.length (by simp [DataW.weights])
        have e : x.data.toList.length = x.size := by simp
        unfold reachBytes at this
        show (x.size : Int) ≤ _
        omega
      | slice e =>
        simp only [Option.map_eq_some_iff] at h
        obtain ⟨σ, hσ, rfl⟩ := h
        simp only [hσ, Bool.and_eq_true, decide_eq_true_eq] at hl
        obtain ⟨⟨⟨l1, l2⟩, l3⟩, l4⟩ := hl
        rcases DataW.trod_slice hu htr with ⟨rfl, _⟩ | ⟨a, len, cap, elems, rest, m, rfl, rfl, hx, hb, h1, h2, h3, h4, _⟩
        · exact ⟨([] : List σ.den), ⟨none, 0, rfl, Nat.le_refl _, .inl rfl⟩, rfl, by simp, fun _ h => by simp at h⟩
        · cases hx
          simp only [DataW.weights, hu, List.mem_cons, List.mem_append] at hw
          have hlen := hw _ (.inl rfl)
          have hwe : ∀ d ∈ elems.map (·.1), ∀ m ∈ d.weights P e, m ≤ reachBytes := weights_all fun m hm => hw m (.inr (.inl hm))
          have each : ∀ i, i < len → ∃ x : σ.den, (∃ ccs, W.cells? base (a.add (i * P.cellsOf e)) (P.cellsOf e) = some ccs ∧ σ.rd (okW W) W x (fun j => ccs[j]?)) ∧ σ.wfd x := by
            intro i hi
            have hq := h4 i hi
            have hi2 : i < elems.length := by omega
            rw [List.getElem?_eq_getElem hi2, Option.bind_eq_some_iff] at hq
            obtain ⟨ccs, c1, c2⟩ := hq
            obtain ⟨x, x1, _, x3⟩ := ih _ _ hσ l1 _ _ _ _ (show _ = some (elems[i].1, elems[i].2) from c2) (hwe _ (List.mem_map.2 ⟨_, List.getElem_mem hi2, rfl⟩))
            exact ⟨x, ⟨ccs, c1, x1⟩, x3⟩
          obtain ⟨xs, hxl, hxs⟩ := choose_list len each
          refine ⟨xs, ⟨some a, cap, by rw [hxl]; rfl, by rw [hxl]; exact h1, ?_⟩, rfl, ?_, fun x hx => ?_⟩
          · by_cases h0 : xs = []
            · exact .inl h0
            · right
              have hpos : 0 < len := by rw [← hxl]; exact List.length_pos_iff.2 h0
              have hcell : ∃ v, W.cell? a = some v := by
                obtain ⟨⟨ccs, c1, _⟩, _⟩ := hxs 0 (by omega)
                rw [l2] at c1
                obtain ⟨g1, g2⟩ := cells?_get c1
                have := g2 0 (by omega)
                rw [List.getElem?_eq_getElem (by omega)] at this
                exact ⟨ccs[0]'(by omega), by simpa [Addr.add] using this⟩
              obtain ⟨v0, hv0⟩ := hcell
              obtain ⟨ab, ao, asp⟩ := a
              simp only [World.cell?] at hv0
              cases hh : W.heap[ab]? with
              | none => rw [hh] at hv0; cases hv0
              | some o =>
                cases o with
                | cells bs ty fz =>
                  rw [hh] at hv0
                  simp only at hv0
                  cases asp with
                  | some z => simp at hv0
                  | none =>
                    refine ⟨ab, ao, bs, ty, fz, rfl, ?_, hh, ?_⟩
                    · by_cases hlt : ab < W.heap.size
                      · exact hlt
                      · rw [Array.getElem?_eq_none (by omega)] at hh; cases hh
                    · intro i hi
                      obtain ⟨⟨ccs, c1, c3⟩, _⟩ := hxs i hi
                      rw [l2] at c1
                      obtain ⟨g1, g2⟩ := cells?_get c1
                      refine Ty.rd_congr _ _ _ _ (fun j hj => ?_) c3
                      have := g2 j hj
                      rw [addr_add, addr_add] at this
                      simp only [World.cell?, hh, Option.isSome_none, Bool.false_eq_true, if_false] at this
                      rw [← this]
                | _ => rw [hh] at hv0; cases hv0
          · simp only [List.length_map] at hlen
            have e1 : len ≤ (elems.length + rest.length) * P.bytesOf e := by
              rw [h3]
              exact Nat.le_trans (Nat.le_add_right _ _) (Nat.le_mul_of_pos_right _ l4)
            unfold reachBytes at hlen
            omega
          · obtain ⟨i, hi, rfl⟩ := List.mem_iff_getElem.1 hx
            exact (hxs i hi).2
      | array m e =>
        simp only [Option.map_eq_some_iff] at h
        obtain ⟨σ, hσ, rfl⟩ := h
        simp only [hσ, Bool.and_eq_true, decide_eq_true_eq] at hl
        obtain ⟨⟨l1, l2⟩, l3⟩ := hl
        obtain ⟨xs, k, rfl, hx, h1, h2, h3⟩ := DataW.trod_array hu htr
        cases hx
        simp only [DataW.weights, hu] at hw
        have hwe := weights_all hw
        have each : ∀ i, i < m → ∃ x : σ.den, σ.rd (okW W) W x (fun j => ((cs.drop (i * σ.sz)).take σ.sz)[j]?) ∧ σ.wfd x := by
          intro i hi
          have hq := h3 i hi
          rw [List.getElem?_eq_getElem (by omega), l2] at hq
          obtain ⟨x, x1, _, x3⟩ := ih _ _ hσ l1 _ _ _ _ (show _ = some ((xs[i]'(by omega)).1, (xs[i]'(by omega)).2) from hq) (hwe _ (List.mem_map.2 ⟨_, List.getElem_mem (by omega), rfl⟩))
          exact ⟨x, x1, x3⟩
        obtain ⟨ys, hyl, hys⟩ := choose_list m each
        refine ⟨ys, ⟨hyl, fun i hi => ?_⟩, by rw [h1, l3]; rfl, hyl, fun x hx => ?_⟩
        · exact Ty.rd_congr _ _ _ _ (fun j hj => drop_take_get hj) (hys i hi).1
        · obtain ⟨i, hi, rfl⟩ := List.mem_iff_getElem.1 hx
          exact (hys i hi).2
      | struct fs =>
        simp only at h hl
        rw [h] at hl
        simp only [Bool.and_eq_true, decide_eq_true_eq] at hl
        obtain ⟨l1, l2⟩ := hl
        obtain ⟨xs, k, rfl, hx, h1, h2, h3⟩ := DataW.trod_struct hu htr
        cases hx
        simp only [DataW.weights, hu] at hw
        obtain ⟨x, x1, x2⟩ := fields_read ih cs k fs.toList τ 0 xs h l1 (by simpa using h2) (fun i f hf => h3 i f (by simpa using hf)) hw
        exact ⟨x, by simpa using x1, by rw [h1, l2], x2⟩
      | _ => cases h
/-! ### a law's arguments -/
def wfs : (ps : List PK) → dens ps → Prop
  | [], _ => True
  | .v t :: ps, x => t.wfd x.1 ∧ wfs ps x.2
  | _ :: _, _ => False
def parsOK (P : Program) : List PK → List TypeId → Bool
  | [], [] => true
  | .v τ :: ps, t :: ts => decide (tyOf P 12 t = some τ) && layB P 12 t && P.readableRec t && decide (t < P.types.size) && parsOK P ps ts
  | _, _ => false
theorem agg_read {t : TypeId} {τ : Ty} {v : Value} (h : tyOf P 12 t = some τ) (hv : Value.okWide P W .any base t v) : Value.isAgg v = τ.agg := by
  unfold tyOf at h
  cases hu : P.underlying t with
  | none => rw [hu] at h; cases h
  | some D =>
    rw [hu] at h
    cases D with
    | int k => cases h; obtain ⟨n, rfl⟩ := okWide_int hu hv; rfl
    | bool => cases h; obtain ⟨n, rfl⟩ := okWide_bool hu hv; rfl
    | string => cases h; obtain ⟨n, rfl⟩ := okWide_string hu hv; rfl
    | slice e =>
      simp only [Option.map_eq_some_iff] at h
      obtain ⟨σ, _, rfl⟩ := h
      obtain ⟨a, l, c, rfl⟩ := okWide_slice hu hv; rfl
    | array m e =>
      simp only [Option.map_eq_some_iff] at h
      obtain ⟨σ, _, rfl⟩ := h
      simp only [Value.okWide, hu] at hv
      obtain ⟨cs, rfl, _⟩ := hv; rfl
    | struct fs =>
      simp only at h
      simp only [Value.okWide, hu] at hv
      obtain ⟨cs, rfl, _⟩ := hv
      cases hf : fs.toList with
      | nil => rw [hf] at h; simp only [tyFields, Option.some.injEq] at h; subst h; rfl
      | cons f l =>
        rw [hf] at h
        simp only [tyFields] at h
        split at h
        · cases h; rfl
        · cases h
    | _ => cases h
theorem args_read {b2 : Nat} (ok okO : Nat → Prop) (hok : ∀ b, b < W.heap.size → ok b) : ∀ (ps : List PK) (ts : List TypeId) (vs : List Value) (ds : List (DataW H)) (q : List MemPlace), parsOK P ps ts = true → DataW.TrodAll enc P W base spare held ts vs ds q →
    (∀ (j : Nat) t v, ts[j]? = some t → vs[j]? = some v → Value.okWide P W .any b2 t v) → (∀ m ∈ DataW.weightsEach P ts ds, m ≤ reachBytes) →
    ∃ (x : dens ps) (ls : List Loc), PsRel ok okO W ps x vs ls ∧ wfs ps x ∧ ioLocs ps ls = []
  | [], [], vs, ds, q, _, hA, _, _ => by
    obtain ⟨rfl, rfl, rfl⟩ := trodAll_nil hA
    exact ⟨(), [], ⟨rfl, rfl⟩, trivial, rfl⟩
  | .v τ :: ps, t :: ts, vs, ds, q, hp, hA, hv, hw => by
    simp only [parsOK, Bool.and_eq_true, decide_eq_true_eq] at hp
    obtain ⟨⟨⟨⟨p1, p2⟩, _⟩, _⟩, p3⟩ := hp
    obtain ⟨v, vs, d, ds, p, q', rfl, rfl, rfl, h0, hA'⟩ := trodAll_cons hA
    simp only [DataW.weightsEach, List.mem_append] at hw
    obtain ⟨fuel, hf⟩ := h0
    obtain ⟨x, x1, x2, x3⟩ := reads 12 t τ p1 p2 _ _ _ _ hf fun m hm => hw m (.inl hm)
    obtain ⟨y, ls, y1, y2, y3⟩ := args_read ok okO hok ps ts vs ds q' p3 hA' (fun j t v h1 h2 => hv (j + 1) t v (by simpa using h1) (by simpa using h2)) fun m hm => hw m (.inr hm)
    refine ⟨(x, y), ⟨none, 0, 0⟩ :: ls, ⟨v, vs, _, ls, rfl, rfl, ⟨?_, by simpa using x2, agg_read p1 (hv 0 t v rfl rfl)⟩, y1⟩, ⟨x3, y2⟩, by simpa [ioLocs, PK.io] using y3⟩
    refine Ty.rd_mono (fun b o h1 h2 => ⟨hok b h1, h2⟩) _ _ _ (Ty.rd_congr _ _ _ _ (fun j _ => ?_) x1)
    simp
  | [], _ :: _, _, _, _, hp, _, _, _ => by cases hp
  | .v _ :: _, [], _, _, _, hp, _, _, _ => by cases hp
  | .box _ :: _, _, _, _, _, hp, _, _, _ => by cases hp
  | .row _ :: _, _, _, _, _, hp, _, _, _ => by cases hp
theorem args_stay (hl : laidOutB P = true) {W' : World} (hb : Below W.heap.size W W') : ∀ (ps : List PK) (ts : List TypeId) (vs : List Value) (ds : List (DataW H)) (q : List MemPlace), parsOK P ps ts = true → DataW.TrodAll enc P W 0 (fun _ => true) true ts vs ds q →
    DataW.TrodAll enc P W' 0 (fun b => decide (b < W.heap.size)) true ts vs ds q
  | [], [], vs, ds, q, _, hA => by
    obtain ⟨rfl, rfl, rfl⟩ := trodAll_nil hA
    exact trodAll_mk0
  | .v τ :: ps, t :: ts, vs, ds, q, hp, hA => by
    simp only [parsOK, Bool.and_eq_true, decide_eq_true_eq] at hp
    obtain ⟨⟨⟨⟨p1, p2⟩, p4⟩, p5⟩, p3⟩ := hp
    obtain ⟨v, vs, d, ds, p, q', rfl, rfl, rfl, h0, hA'⟩ := trodAll_cons hA
    have lt0 : ∀ x ∈ p, x.block < W.heap.size := by obtain ⟨m, hm⟩ := h0; exact DataW.trod_lt m _ _ _ hm
    exact trodAll_cons_mk (Below.trod hl p4 p5 h0 hb lt0) (args_stay hl hb ps ts vs ds q' p3 hA')
  | [], _ :: _, _, _, _, hp, _ => by cases hp
  | .v _ :: _, [], _, _, _, hp, _ => by cases hp
  | .box _ :: _, _, _, _, _, hp, _ => by cases hp
  | .row _ :: _, _, _, _, _, hp, _ => by cases hp
end
/-- What a law that is told comes to. -/
theorem law_calls {H : Type} {enc : TypeId × Value → H} {P : Program} {f : FuncId} {S : Summ} (hS : SumOK P f S) (hres : S.res = [.v .bool]) (hfn : ∀ x, (S.fn x).1 = hres ▸ ((true, ()) : rdens [.v .bool]))
    {W : World} {b2 : Nat} {ts : List TypeId} {vs : List Value} {ds : List (DataW H)} {q : List MemPlace} (hpar : parsOK P S.par ts = true) (hA : DataW.TrodAll enc P W 0 (fun _ => true) true ts vs ds q)
    (hv : ∀ (j : Nat) t v, ts[j]? = some t → vs[j]? = some v → Value.okWide P W .any b2 t v) (hw : ∀ m ∈ DataW.weightsEach P ts ds, m ≤ reachBytes) (hpre : ∀ x, wfs S.par x → S.pre x) :
    Calls P f vs.toArray W fun e W' => e = .returned (.bool true) ∧ Below W.heap.size W W' := by
  obtain ⟨x, ls, h1, h2, h3⟩ := args_read (okW W) (fun _ => False) (fun _ h => h) S.par ts vs ds q hpar hA hv hw
  refine (hS x vs ls W _ _ (hpre x h2) h1 (by rw [h3]; simp [blks]) (by rw [h3]; simp [blks])).mono fun e W' h => ?_
  obtain ⟨rs, rl, rfl, hk, hr, _⟩ := h
  obtain ⟨par, res, esc, pre, fn⟩ := S
  simp only at hres
  subst hres
  simp only at hr hfn
  rw [hfn] at hr
  obtain ⟨v, vs', l, ls', rfl, rfl, hv, rfl, rfl⟩ := hr
  have := VRel.bool_eq hv
  refine ⟨by simp [retVal, this], ⟨hk.os, hk.tape, hk.output, hk.size, fun k hk2 => hk.block k hk2 ?_⟩⟩
  rw [h3]
  simp [blks]
end Go.Lift
