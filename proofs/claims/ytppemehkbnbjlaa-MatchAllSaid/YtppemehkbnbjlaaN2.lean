/- The order of a word's places, walked. -/
import Derived.Test.YtppemehkbnbjlaaN1
import Derived.RangeFuncNested
set_option linter.unusedVariables false
set_option linter.unusedSimpArgs false
namespace Go.Proofs
open Go.RowKit Go.Shelf
attribute [local go_sem] Oper.semAt_some
theorem Try.col_len (n : Int) : ∀ (k : Nat) (p : Int), (n - p).toNat ≤ k → (Try.col n p).length ≤ k
  | 0, p, h => by rw [Try.col, if_neg (by omega)]; simp
  | k + 1, p, h => by
    rw [Try.col]
    split
    · have := Try.col_len n k (p + 8) (by omega)
      simp; omega
    · simp
theorem Try.turnL_len {n : Int} (h : n ≤ 1000000) : (Try.turnL n).length ≤ 8000000 := by
  have hc : ∀ p : Int, 0 ≤ p → (Try.col n p).length ≤ 1000000 := fun p hp => Try.col_len n _ p (by omega)
  have h0 := hc 0 (by omega)
  have h1 := hc 4 (by omega)
  have h2 := hc 2 (by omega)
  have h3 := hc 6 (by omega)
  have h4 := hc 1 (by omega)
  have h5 := hc 5 (by omega)
  have h6 := hc 3 (by omega)
  have h7 := hc 7 (by omega)
  simp only [Try.turnL, Try.cols, List.flatMap_cons, List.flatMap_nil, List.length_append, List.length_nil]
  omega
theorem Try.info3 : (Try.prog.info? 3).map (fun i => (i.zero, i.size, i.bytes)) = some (some (.int .i64 0), 1, 8) := by kernel_rfl
set_option maxHeartbeats 1000000 in
theorem Try.turn_in (F : Fence) (m : Nat) (h : F.fn 125) (hro : F.round = none) (n : Int) (w : World) :
    CallsIn F m Try.prog 125 #[.int .i64 n] w fun e w' => e = .returned (.func (.func 134) #[] #[.pointer (some ⟨w.heap.size, 0, none⟩)]) ∧ w' = w.alloc (.cells #[.int .i64 n] 3) := by
  refine callsIn_of_wp Try.func125 rfl h ?_ hro
  simp only [Try.ntmps125, List.size_toArray, List.length_cons, List.length_nil, Nat.reduceAdd, Nat.reduceSub, Array.replicate_succ, Array.replicate_zero, List.push_toArray, List.append_toArray, List.nil_append, List.cons_append]
  gi_wp2
  go_ret
  exact ⟨rfl, rfl⟩
def Try.keepsAt (B : Nat) (W W' : World) : Prop := W'.heap[B]? = W.heap[B]?
theorem Try.turn_stops (F : Fence) (m : Nat) (h : F.fn 134) (hro : F.round = none) (hm : 1 ≤ m) (Bn : Nat) (n : Int) (hn : n ≤ 1000000) (w : World) (t : TypeId) (hB : Boxed w Bn t (.int .i64 n)) :
    SeqStopsK F m Try.prog 134 #[.pointer (some ⟨Bn, 0, none⟩)] (fun x : Int => #[Value.int .i64 x]) (Try.keepsAt Bn) (fun ys => ys = Try.turnL n) (fun pre => pre <+: Try.turnL n) (Try.turnL n).length w :=
  fun l J Jx W hW _ _ hY h0 => Try.turn1_in F m h hro hm l Bn n hn J Jx hY W t ((hW.block Bn hB.lt).trans hB) h0
theorem Try.ownsRow_base {W : World} {b b' : Nat} {e : TypeId} {size : Nat} {v : Value} {k : Nat} {xs : List Value} (h : b' ≤ b) (hr : W.ownsRow b e size v k xs) : W.ownsRow b' e size v k xs := by
  refine ⟨hr.1, ?_⟩
  rcases hr.2 with hl | ⟨g, cap, cur, rfl, hb, r⟩
  · exact .inl hl
  · exact .inr ⟨g, cap, cur, rfl, by omega, r⟩
theorem Try.appended {W w1 : World} {n₀ : Nat} {t : TypeId} {u : Value} {v v' : Value} {k m : Nat} {xs ys : List Value} {tmp : Obj}
    (hv : Boxed W n₀ 23 v) (hu : Boxed W (n₀ + 1) t u) (hrow : W.ownsRow (n₀ + 2) 3 1 v k xs) (hn₀ : n₀ ≤ W.heap.size) (hsz : n₀ + 1 < W.heap.size)
    (hown' : w1.ownsRow (n₀ + 2) 3 1 v' m ys) (hgrow : (W.alloc tmp).grownBy w1 v.ownBlock) :
    Boxed w1 n₀ 23 v ∧ Boxed (w1.setCell ⟨n₀, 0, none⟩ v') n₀ 23 v' ∧ (w1.setCell ⟨n₀, 0, none⟩ v').ownsRow (n₀ + 2) 3 1 v' m ys ∧ KeepsOthers W (w1.setCell ⟨n₀, 0, none⟩ v') ∧ Below n₀ W (w1.setCell ⟨n₀, 0, none⟩ v') ∧ Boxed (w1.setCell ⟨n₀, 0, none⟩ v') (n₀ + 1) t u := by
  have hte : (23 : TypeId) ≠ 3 := by decide
  have hv1 : Boxed w1 n₀ 23 v := (hv.alloc tmp).kept hgrow (hv.not_row hte hrow)
  have hne : ∀ j, v.ownBlock = some j → n₀ + 2 ≤ j := fun j ej => by
    rcases hrow.2 with ⟨rfl, _⟩ | ⟨g, cap, cur, rfl, hb, _, _⟩
    · simp [Value.ownBlock] at ej
    · obtain rfl : g = j := by simpa [Value.ownBlock] using ej
      exact hb
  refine ⟨hv1, hv1.set v', hown'.kept (grownBy_setCell' w1 n₀ v') (.inr (hv1.not_row hte hown').symm), ?_, ?_, ?_⟩
  · refine ((KeepsOthers.alloc W tmp).trans (KeepsOthers.of_grownBy hgrow fun j o ej hj => ?_)).trans (KeepsOthers.setCell _ _ _)
    rcases (hrow.alloc tmp).2 with ⟨rfl, _⟩ | ⟨g, cap, cur, rfl, _, hgb, _⟩
    · simp [Value.ownBlock] at ej
    · obtain rfl : g = j := by simpa [Value.ownBlock] using ej
      rw [hgb] at hj; cases hj; rfl
  · refine (((Below.refl n₀ W).alloc hn₀ tmp).grown hgrow (by simp; omega) fun j ej => ?_).setCell (p := ⟨n₀, 0, none⟩) (Nat.le_refl _) v'
    have := hne j ej; omega
  · refine ((hu.alloc tmp).kept hgrow fun ej => ?_).kept (grownBy_setCell' w1 n₀ v') (by simp)
    have := hne _ ej.symm; omega
set_option maxRecDepth 100000 in
set_option maxHeartbeats 2000000 in
theorem Try.order_in (F : Fence) (m : Nat) (h1 : F.fn 85) (h2 : F.fn 125) (h3 : F.fn 134) (hro : F.round = none) (hm : 3 ≤ m) (n : Int) (hn : n ≤ 1000000) (w : World) :
    CallsIn F m Try.prog 85 #[.int .i64 n] w fun e W' => ∃ v, e = .returned v ∧ W'.ownsRow w.heap.size 3 1 v (Try.turnL n).length ((Try.turnL n).map (Value.int .i64)) ∧ (v = .slice none 0 0 ↔ Try.turnL n = []) ∧ Below w.heap.size w W' := by
  have hm1 : 1 ≤ m := by omega
  have hlen := Try.turnL_len hn
  have hml : 8000000 ≤ maxLen := by decide
  obtain ⟨i0, hi, hz0, hz1, hz2⟩ := info_parts Try.info3
  refine callsIn_of_wp_marks Try.func85 rfl h1 ?_ hro
  simp only [Try.ntmps85, List.size_toArray, List.length_cons, List.length_nil, Nat.reduceAdd, Nat.reduceSub, Array.replicate_succ, Array.replicate_zero, List.push_toArray, List.append_toArray, List.nil_append, List.cons_append]
  gi_wp2_with (gi_at_call 125; refine (Try.turn_in F (m - 1) h2 hro _ _).mono ?_; rintro e w' ⟨rfl, rfl⟩)
  have bO := Boxed.new w 23 (.slice none 0 0)
  have bN := Boxed.new (w.alloc (.cells #[.slice none 0 0] 23)) 3 (.int .i64 n)
  rw [World.size_alloc] at bN
  have hB0 : Below w.heap.size w ((w.alloc (.cells #[.slice none 0 0] 23)).alloc (.cells #[.int .i64 n] 3)) := ((Below.refl _ w).alloc (Nat.le_refl _) _).alloc (by simp) _
  refine wpIn_rangeFunc_ownG hro hm1 (gf := 134) (lb := #[.pointer (some ⟨w.heap.size + 1, 0, none⟩)]) rfl h3 (enters_of Try.func134 (by kernel_rfl) rfl)
    (Try.turn_stops F (m - 1) h3 hro (by omega) (w.heap.size + 1) n hn _ 3 bN) (fun h k => by unfold Try.keepsAt at h k ⊢; rw [k, h]) (fun W l o o' hl _ _ _ => World.putObj_heap_other (by simp at hl; omega)) (Below.refl _ _) (fun _ => rfl)
    (fun pre W => ((∃ v, Boxed W w.heap.size 23 v ∧ W.ownsRow (w.heap.size + 2) 3 1 v pre.length (pre.map (Value.int .i64)) ∧ (v = .slice none 0 0 ↔ pre = [])) ∧ Boxed W (w.heap.size + 1) 3 (.int .i64 n)) ∧ Below w.heap.size w W)
    (fun _ _ _ => False)
    (OwnFrom.and (OwnFrom.and (Own.from (holdsRow_own (w.heap.size + 2) w.heap.size 23 3 1 (fun pre : List Int => pre.length) (fun pre => pre.map (Value.int .i64)) (fun pre v => v = .slice none 0 0 ↔ pre = [])) _) (Own.from (boxed_own _ _ _) _)) (ownFrom_below (Nat.le_refl _) (by simp; omega)))
    (fun _ _ _ _ _ hs _ _ => hs)
    ⟨⟨⟨_, bO.alloc _, World.ownsRow_nil _ _ _ _, by simp⟩, bN⟩, hB0⟩
    (fun x => { tmps := #[.int .i64 n, undef, .slice none 0 0, .pointer (some ⟨w.heap.size, 0, none⟩), .int .i64 x, .int .i64 n, .func (.func 134) #[] #[.pointer (some ⟨w.heap.size + 1, 0, none⟩)], .int .i64 x, undef, undef, undef, undef, undef], defers := [] }) ?assign ?body ?done ?stop
  case assign =>
    intro l x W K hK
    gi_wp2
    exact hK
  case body =>
    rintro l pre x W ⟨⟨⟨v, hv, hrow, hnil⟩, hbn⟩, hB⟩ hlt
    have hc := hv.cell
    have hsz := hbn.lt
    gi_wp2_with (gi_at_builtin; refine wpListIn_append_own _ rfl _ _ 23 rfl (w.heap.size + 2) 3 i0 (.int .i64 0) 1 8 Try.underlying23 hi hz0 hz1 hz2 rfl (by decide) _ _ _ rfl (hrow.alloc _) ⟨W.heap.size, 0, none⟩ 1 1 [.int .i64 x] rfl rfl (cell_one_new _ _ _) (by simp [Value.oneCell']) (by omega) (by omega) (by simp; omega) ?_; intro v' w1 hown' hgrow _; obtain ⟨g', cap', rfl⟩ := ownsRow_succ hown'; obtain ⟨hv1, hv2, hr2, hk2, hb2, hbn2⟩ := Try.appended hv hbn hrow hB.size hsz hown' hgrow; have hc1 := hv1.cell; have hf1 := hv1.frozen)
    exact ⟨hk2.from _, hbn2.trans hbn.symm, ⟨⟨_, hv2, by simpa using hr2, by simp⟩, hbn2⟩, hB.trans hb2⟩
  case done =>
    rintro D ys W hD rfl ⟨⟨⟨v, hv, hrow, hnil⟩, hbn⟩, hB⟩ hK
    have hc := hv.cell
    gi_wp2
    refine ⟨by simp, .inl ⟨_, _, rfl, run_takeDeferred hK, ?_⟩⟩
    exact ⟨_, results_tmp rfl _ _ _, v, rfl, ownsRow_putObj (Try.ownsRow_base (by omega) hrow) _ hK rfl, hnil, hB.trans (belowK_b (w := w) (Nat.le_refl _) W D _ _ (by simp at hD; omega) hK rfl rfl)⟩
  case stop =>
    rintro D c pre W _ _ h _
    exact h.elim
end Go.Proofs
