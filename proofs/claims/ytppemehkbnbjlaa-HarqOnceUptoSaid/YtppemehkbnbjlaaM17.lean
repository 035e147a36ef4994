/- A sender and a receiver of blocks, and what was told: each block is told at most once. -/
import Derived.Test.YtppemehkbnbjlaaM3
set_option linter.unusedVariables false
set_option linter.unusedSimpArgs false
namespace Go.Spec
open Go Go.Lift
abbrev Told := List (ByteArray × Int)
def textOf (n : Int) : ByteArray := ByteArray.mk #[98, 108, 111, 99, 107, 32] ++ strOfNums [IntKind.wrap .u8 (Int.fdiv n (2 ^ 24)), IntKind.wrap .u8 (Int.fdiv n (2 ^ 16)), IntKind.wrap .u8 (Int.fdiv n (2 ^ 8)), IntKind.wrap .u8 n]
def toldN (es : Told) (d : ByteArray) : Int := (findK .str es d).getD 0
def flS (s : HS) (k : Int) : Bool := s.2.1.getD k.toNat false
def flR (r : Flags) (k : Int) : Bool := r.1.getD k.toNat false
def opR (r : Flags) (k : Int) : Bool := r.2.1.getD k.toNat false
def datB (l : List ByteArray) (k : Int) : ByteArray := l.getD k.toNat ByteArray.empty
/-- What is so of one process. -/
def AtK (s : HS) (r : Flags) (l : List ByteArray) (es : Told) (n : Int) (k : Int) : Prop := match blk s k with
  | none => flR r k = flS s k
  | some b => b.1 = datB l k ∧ 0 ≤ b.2.1 ∧ b.2.1 < s.1 ∧ b.2.2.1 = false ∧ (∃ m, 0 ≤ m ∧ m < n ∧ b.1 = textOf m) ∧
    (b.2.1 = 0 → flR r k ≠ flS s k ∧ toldN es b.1 = 0) ∧ (b.2.1 ≠ 0 → flR r k = flS s k ∧ toldN es b.1 = if opR r k = true then 0 else 1)
structure HInv (s : HS) (r : Flags) (l : List ByteArray) (es : Told) (n : Int) : Prop where
  lim : 1 ≤ s.1 ∧ s.1 ≤ 8
  mp : s.2.2.1.isSome = true
  ks : keys1 s.2.2.1
  l1 : s.2.1.length = 8
  l2 : r.1.length = 8
  l3 : r.2.1.length = 8
  l4 : l.length = 8
  told : ∀ d, toldN es d ≠ 0 → ∃ m, 0 ≤ m ∧ m < n ∧ d = textOf m
  at_ : ∀ k, 0 ≤ k → k ≤ 7 → AtK s r l es n k
  df : ∀ k j, 0 ≤ k → k ≤ 7 → 0 ≤ j → j ≤ 7 → k ≠ j → ∀ a b, blk s k = some a → blk s j = some b → a.1 ≠ b.1
theorem strEq (x y : ByteArray) : eqD .str x y = true ↔ x = y := ⟨fun e => bytes_toList_inj (by simpa [eqD] using e), fun e => by subst e; simp [eqD]⟩
theorem findK_putK {β : Type} : ∀ (es : List (ByteArray × β)) (x z : ByteArray) (y : β), findK .str (putK .str es x y) z = if x = z then some y else findK .str es z
  | [], x, z, y => by
    simp only [putK, findK, strEq]
    by_cases h : x = z
    · subst h; simp
    · simp [h, Ne.symm h]
  | e :: es, x, z, y => by
    simp only [putK]
    by_cases hk : eqD .str x e.1 = true
    · have e1 := (strEq _ _).1 hk
      rw [if_pos hk]
      simp only [findK, strEq]
      by_cases hz : z = x
      · subst hz; simp
      · have : ¬ z = e.1 := fun h => hz (h.trans e1.symm)
        simp [hz, Ne.symm hz, this]
    · rw [if_neg hk]
      simp only [findK, findK_putK es x z y]
      by_cases hz : eqD .str z e.1 = true
      · have e1 := (strEq _ _).1 hz
        have : ¬ x = z := fun h => hk ((strEq _ _).2 (h.trans e1))
        simp [hz, this]
      · simp [hz]
theorem toldN_put (es : Told) (x z : ByteArray) (y : Int) : toldN (putK .str es x y) z = if x = z then y else toldN es z := by
  unfold toldN
  rw [findK_putK]
  split <;> rfl
theorem text_inj {m n : Int} (hm : 0 ≤ m) (hm2 : m < 16777216) (hn : 0 ≤ n) (hn2 : n < 16777216) (h : textOf m = textOf n) : m = n := by
  have h2 := congrArg (fun b : ByteArray => b.data.toList) h
  simp [textOf, strOfNums, IntKind.wrap, IntKind.signed, IntKind.bits] at h2
  obtain ⟨h3, h4, h5, h6⟩ := h2
  have key : ∀ a b : Int, 0 ≤ a → a < 256 → 0 ≤ b → b < 256 → UInt8.ofNat a.toNat = UInt8.ofNat b.toNat → a = b := by
    intro a b a0 a1 b0 b1 e
    have e := congrArg UInt8.toNat e
    simp only [UInt8.toNat_ofNat'] at e
    omega
  have fd : ∀ (x d : Int), 0 ≤ x → 0 < d → x.fdiv d = x / d := fun x d hx hd => Int.fdiv_eq_ediv_of_nonneg _ (by omega)
  have h4 := key _ _ (Int.emod_nonneg _ (by decide)) (Int.emod_lt_of_pos _ (by decide)) (Int.emod_nonneg _ (by decide)) (Int.emod_lt_of_pos _ (by decide)) h4
  have h5 := key _ _ (Int.emod_nonneg _ (by decide)) (Int.emod_lt_of_pos _ (by decide)) (Int.emod_nonneg _ (by decide)) (Int.emod_lt_of_pos _ (by decide)) h5
  have h6 := key _ _ (Int.emod_nonneg _ (by decide)) (Int.emod_lt_of_pos _ (by decide)) (Int.emod_nonneg _ (by decide)) (Int.emod_lt_of_pos _ (by decide)) h6
  rw [fd _ _ hm (by decide), fd _ _ hn (by decide)] at h4 h5
  omega
theorem text_size (n : Int) : (textOf n).size = 10 := by
  rfl
theorem sub_inv {s : HS} {r : Flags} {l : List ByteArray} {es : Told} {n : Int} (h : HInv s r l es n) (hn : 0 ≤ n) (hn2 : n < 1048577) :
    ((subS s (textOf n)).1.2 = 0 ∧ 0 ≤ (subS s (textOf n)).1.1 ∧ (subS s (textOf n)).1.1 < 8 ∧ HInv (subS s (textOf n)).2 r (l.set (subS s (textOf n)).1.1.toNat (textOf n)) es (n + 1)) ∨ ((subS s (textOf n)).1.2 = 7 ∧ (subS s (textOf n)).2 = s) := by
  have hsz := text_size n
  unfold subS
  rw [if_neg (by omega)]
  split
  · rename_i hf
    left
    obtain ⟨p, hp⟩ := Option.isSome_iff_exists.1 hf
    rw [hp]
    obtain ⟨p0, p7, pb⟩ := free_spec _ _ _ hp
    have p7 : p < 8 := by simpa using p7
    have pb : blk s p = none := by simpa using pb
    have hfresh : toldN es (textOf n) = 0 := by
      apply Classical.byContradiction
      intro h0
      obtain ⟨m, h1, h2, h3⟩ := h.told _ h0
      have := text_inj hn (by omega) h1 (by omega) h3
      omega
    have hblk : ∀ j, blk (putS s p (textOf n)) j = if p = j then some (textOf n, 0, false, ()) else blk s j := by
      intro j
      show (getO (putO s.2.2.1 p _) j).getD none = _
      rw [getO_putO _ _ _ _ h.mp]
      split
      · rfl
      · rfl
    refine ⟨rfl, p0, p7, h.lim, ?_, keys1_putO h.ks, by simp [putS, h.l1], h.l2, h.l3, by simp [h.l4], fun d hd => ?_, fun k k0 k7 => ?_, fun k j k0 k7 j0 j7 hkj a b ha hb => ?_⟩
    · show (putO s.2.2.1 p _).isSome = true
      have := h.mp
      cases hq : s.2.2.1 with
      | none => rw [hq] at this; cases this
      | some q => rfl
    · obtain ⟨m, h1, h2, h3⟩ := h.told d hd
      exact ⟨m, h1, by omega, h3⟩
    · have hk := h.at_ k k0 k7
      unfold AtK at hk ⊢
      show match blk (putS s p (textOf n)) k with | none => _ | some b => _
      rw [hblk]
      by_cases e : p = k
      · subst e
        rw [pb] at hk
        have hk : flR r p = flS s p := hk
        have hfl : flS (putS s p (textOf n)) p = !flS s p := getD_set_eq' (by have := h.l1; omega)
        rw [if_pos rfl]
        refine ⟨?_, Int.le_refl 0, by show (0 : Int) < s.1; have := h.lim; omega, rfl, ⟨n, hn, by omega, rfl⟩, fun _ => ⟨?_, hfresh⟩, fun h => absurd rfl h⟩
        · exact (getD_set_eq' (by have := h.l4; simp only [Option.getD_some]; omega)).symm
        · show flR r p ≠ flS (putS s p (textOf n)) p
          rw [hfl, hk]; cases flS s p <;> simp
      · rw [if_neg e]
        have hfl : flS (putS s p (textOf n)) k = flS s k := getD_set_ne' (by omega)
        have hdt : datB (l.set p.toNat (textOf n)) k = datB l k := getD_set_ne' (by omega)
        cases hb : blk s k with
        | none =>
          rw [hb] at hk
          show flR r k = flS (putS s p (textOf n)) k
          rw [hfl]; exact hk
        | some b =>
          rw [hb] at hk
          obtain ⟨g1, g2, g3, g4, ⟨m, g5, g6, g7⟩, g8, g9⟩ := hk
          refine ⟨by rw [g1]; exact hdt.symm, g2, g3, g4, ⟨m, g5, by omega, g7⟩, fun h => ?_, fun h => ?_⟩
          · show flR r k ≠ flS (putS s p (textOf n)) k ∧ _
            rw [hfl]; exact g8 h
          · show flR r k = flS (putS s p (textOf n)) k ∧ _
            rw [hfl]; exact g9 h
    · have hother : ∀ i c, 0 ≤ i → i ≤ 7 → blk s i = some c → textOf n ≠ c.1 := by
        intro i c i0 i7 hc he
        have := h.at_ i i0 i7
        unfold AtK at this
        rw [hc] at this
        obtain ⟨_, _, _, _, ⟨m, g5, g6, g7⟩, _⟩ := this
        have := text_inj hn (by omega) g5 (by omega) (he.trans g7)
        omega
      have ha : blk (putS s p (textOf n)) k = some a := ha
      have hb : blk (putS s p (textOf n)) j = some b := hb
      rw [hblk] at ha hb
      by_cases e : p = k
      · subst e
        rw [if_pos rfl] at ha
        rw [if_neg hkj] at hb
        cases ha
        exact hother j b j0 j7 hb
      · rw [if_neg e] at ha
        by_cases e2 : p = j
        · subst e2
          rw [if_pos rfl] at hb
          cases hb
          exact (hother k a k0 k7 ha).symm
        · rw [if_neg e2] at hb
          exact h.df k j k0 k7 j0 j7 hkj a b ha hb
  · exact .inr ⟨rfl, rfl⟩
/-- What the receiver answers, what is told then, what the sender is answered. -/
def shotOf (s : HS) (k : Int) (b : BL) (heard : Bool) : SH := (k, [0, 2, 3, 1].getD (Int.tmod b.2.1 4).toNat 0, flS s k, if heard = true then b.1 else ByteArray.empty, ())
def takenOf (s : HS) (r : Flags) (k : Int) (b : BL) (heard : Bool) : (ByteArray × Bool × Bool × Int) × Flags := takeOf true r (shotOf s k b heard) heard
def sentB (s : HS) (k : Int) (b : BL) : HS := setB s k (b.1, b.2.1 + 1, true, ())
def toldOf (t : ByteArray × Bool × Bool × Int) (es : Told) : Told := if t.2.1 = true then putK .str es t.1 (toldN es t.1 + 1) else es
theorem next_inv {s : HS} {r : Flags} {l : List ByteArray} {es : Told} {n : Int} (h : HInv s r l es n) {k : Int} (k0 : 0 ≤ k) (k7 : k ≤ 7) :
    ((nextS s k).1.2 ≠ 0 ∧ (nextS s k).2 = s) ∨ ∃ b, blk s k = some b ∧ nextS s k = ((shotOf s k b true, 0), sentB s k b) ∧ b.1 = datB l k := by
  unfold nextS
  rw [if_neg (by omega)]
  have hk := h.at_ k k0 k7
  unfold AtK at hk
  cases hb : blk s k with
  | none => exact .inl ⟨by show (6 : Int) ≠ 0; decide, rfl⟩
  | some b =>
    rw [hb] at hk
    obtain ⟨g1, _, _, g4, _⟩ := hk
    right
    refine ⟨b, rfl, ?_, g1⟩
    simp only [g4]
    rfl
theorem step_inv {s : HS} {r : Flags} {l : List ByteArray} {es : Told} {n : Int} (h : HInv s r l es n) {k : Int} (k0 : 0 ≤ k) (k7 : k ≤ 7) {b : BL} (hb : blk s k = some b) (heard bit : Bool) :
    ((takenOf s r k b heard).1.2.1 = true → (takenOf s r k b heard).1.1 = b.1 ∧ toldN es b.1 = 0) ∧
    ((takenOf s r k b heard).1.2.2.1 = true → toldN (toldOf (takenOf s r k b heard).1 es) b.1 = 1) ∧
    (ansS (sentB s k b) k ((takenOf s r k b heard).1.2.2.1 && bit)).1.2 = 0 ∧
    HInv (ansS (sentB s k b) k ((takenOf s r k b heard).1.2.2.1 && bit)).2 (takenOf s r k b heard).2 l (toldOf (takenOf s r k b heard).1 es) n := by
  have hk := h.at_ k k0 k7
  unfold AtK at hk
  rw [hb] at hk
  obtain ⟨g1, g2, g3, g4, ⟨m, g5, g6, g7⟩, g8, g9⟩ := hk
  have hsz : b.1.size = 10 := by rw [g7]; exact text_size m
  have hkn : k.toNat < 8 := by omega
  have hl1 := h.l1
  have hl2 := h.l2
  have hl3 := h.l3
  -- the receiver's answer
  have hver : badShot (shotOf s k b heard) = false := by
    have h1 := Int.tmod_nonneg 4 g2
    have h2 : Int.tmod b.2.1 4 < 4 := Int.tmod_lt_of_pos _ (by decide)
    obtain ⟨v, hv⟩ := Int.eq_ofNat_of_zero_le h1
    have hv4 : v < 4 := by omega
    have : 0 ≤ ([0, 2, 3, 1] : List Int).getD (Int.tmod b.2.1 4).toNat 0 ∧ ([0, 2, 3, 1] : List Int).getD (Int.tmod b.2.1 4).toNat 0 ≤ 3 := by
      rw [hv]
      match v, hv4 with
      | 0, _ => decide
      | 1, _ => decide
      | 2, _ => decide
      | 3, _ => decide
    show (decide (k < 0) || decide (k > 7) || decide (([0, 2, 3, 1] : List Int).getD (Int.tmod b.2.1 4).toNat 0 < 0) || decide (([0, 2, 3, 1] : List Int).getD (Int.tmod b.2.1 4).toNat 0 > 3)) = false
    rw [decide_eq_false (by omega), decide_eq_false (by omega), decide_eq_false (by omega), decide_eq_false (by omega)]; rfl
  have hsmall : ¬ ((shotOf s k b heard).2.2.2.1.size : Int) > 1500 := by
    show ¬ ((if heard = true then b.1 else ByteArray.empty).size : Int) > 1500
    split
    · omega
    · show ¬ (((0 : Nat) : Int) > 1500); omega
  generalize hr1 : takeTurn true r (shotOf s k b heard) = r1
  have htk : takenOf s r k b heard = (if r1.2.1.getD k.toNat false = false then ((⟨#[]⟩, false, true, 0), r1)
      else if heard = true then ((b.1, true, true, 0), (r1.1, r1.2.1.set k.toNat false, ())) else ((⟨#[]⟩, false, false, 0), r1)) := by
    unfold takenOf takeOf
    rw [hver, if_neg (by simp), if_neg hsmall, hr1]
    simp only [Bool.not_true]
    show (if r1.2.1.getD k.toNat false = false then _ else _) = _
    split
    · rfl
    · cases heard <;> simp [shotOf]
  have hr1' : r1 = if flS s k = flR r k then r else (r.1.set k.toNat (flS s k), r.2.1.set k.toNat true, ()) := by
    rw [← hr1]; rfl
  -- flags behind the turn
  have f1 : flR r1 k = flS s k := by
    rw [hr1']; split
    · rename_i e; exact e.symm
    · exact getD_set_eq' (by omega)
  have f2 : ∀ j, 0 ≤ j → j ≤ 7 → k ≠ j → flR r1 j = flR r j ∧ opR r1 j = opR r j := by
    intro j j0 j7 hj
    rw [hr1']; split
    · exact ⟨rfl, rfl⟩
    · exact ⟨getD_set_ne' (by omega), getD_set_ne' (by omega)⟩
  have f3 : r1.1.length = 8 ∧ r1.2.1.length = 8 := by
    rw [hr1']; split
    · exact ⟨hl2, hl3⟩
    · exact ⟨by simp [hl2], by simp [hl3]⟩
  have f4 : toldN es b.1 = if opR r1 k = true then 0 else 1 := by
    by_cases hz : b.2.1 = 0
    · obtain ⟨h1, h2⟩ := g8 hz
      have : opR r1 k = true := by
        rw [hr1', if_neg (fun e => h1 e.symm)]
        exact getD_set_eq' (by omega)
      rw [this, h2]; rfl
    · obtain ⟨h1, h2⟩ := g9 hz
      rw [hr1', if_pos h1.symm]; exact h2
  -- the sender's answer
  have hbl : blk (sentB s k b) k = some (b.1, b.2.1 + 1, true, ()) := by unfold sentB; rw [blk_setB hb, if_pos rfl]
  have hblj : ∀ j, k ≠ j → blk (sentB s k b) j = blk s j := by intro j hj; unfold sentB; rw [blk_setB hb, if_neg hj]
  have hsent : (sentB s k b).1 = s.1 ∧ (sentB s k b).2.1 = s.2.1 ∧ (sentB s k b).2.2.1.isSome = true ∧ keys1 (sentB s k b).2.2.1 :=
    ⟨rfl, rfl, by show (setO _ _ _).isSome = true; rw [setO_isSome]; exact h.mp, keys1_setO h.ks⟩
  generalize sentB s k b = s1 at hbl hblj hsent ⊢
  have hans : ∀ yes : Bool, (ansS s1 k yes).1.2 = 0 ∧ (ansS s1 k yes).2.1 = s.1 ∧ (ansS s1 k yes).2.2.1 = s.2.1 ∧ (ansS s1 k yes).2.2.2.1.isSome = true ∧ keys1 (ansS s1 k yes).2.2.2.1 ∧
      (∀ j, k ≠ j → blk (ansS s1 k yes).2 j = blk s j) ∧
      (blk (ansS s1 k yes).2 k = none ∨ (blk (ansS s1 k yes).2 k = some (b.1, b.2.1 + 1, false, ()) ∧ yes = false ∧ b.2.1 + 1 < s.1)) := by
    intro yes
    unfold ansS
    rw [if_neg (by omega), hbl]
    simp only
    rw [if_neg (by simp)]
    split
    · refine ⟨rfl, hsent.1, hsent.2.1, ?_, keys1_delO hsent.2.2.2, fun j hj => ?_, .inl ?_⟩
      · have := hsent.2.2.1
        show (delO' s1.2.2.1 k).isSome = true
        cases hq : s1.2.2.1 with
        | none => rw [hq] at this; cases this
        | some q => rfl
      · show (getO (delO' s1.2.2.1 k) j).getD none = _
        rw [getO_delO _ _ hsent.2.2.2, if_neg hj]
        exact hblj j hj
      · show (getO (delO' s1.2.2.1 k) k).getD none = none
        rw [getO_delO _ _ hsent.2.2.2, if_pos rfl]; rfl
    · rename_i hy
      simp only [not_or, Bool.not_eq_true] at hy
      refine ⟨rfl, hsent.1, hsent.2.1, ?_, keys1_setO hsent.2.2.2, fun j hj => ?_, .inr ⟨?_, hy.1, ?_⟩⟩
      · show (setO _ _ _).isSome = true
        rw [setO_isSome]; exact hsent.2.2.1
      · rw [blk_setB hbl, if_neg hj]; exact hblj j hj
      · rw [blk_setB hbl, if_pos rfl]
      · have h2 : ¬ b.2.1 + 1 = s1.1 := hy.2
        rw [hsent.1] at h2
        omega
  -- put together
  have fin : ∀ (yes : Bool) (r2 : Flags) (es2 : Told), r2.1 = r1.1 → r2.2.1.length = 8 → (∀ j, 0 ≤ j → j ≤ 7 → k ≠ j → opR r2 j = opR r1 j) → (∀ d, d ≠ b.1 → toldN es2 d = toldN es d) →
      (toldN es2 b.1 = if opR r2 k = true then 0 else 1) → HInv (ansS s1 k yes).2 r2 l es2 n := by
    intro yes r2 es2 e1 e2 e3 e4 e5
    obtain ⟨a1, a2, a3, a4, a5, a6, a7⟩ := hans yes
    refine ⟨by rw [a2]; exact h.lim, a4, a5, by rw [a3]; exact hl1, by rw [e1]; exact f3.1, e2, h.l4, fun d hd => ?_, fun j j0 j7 => ?_, fun i j i0 i7 j0 j7 hij x y hx hy => ?_⟩
    · by_cases hd2 : d = b.1
      · exact ⟨m, g5, g6, hd2.trans g7⟩
      · exact h.told d (by rw [e4 d hd2] at hd; exact hd)
    · have hfl : ∀ i, flS (ansS s1 k yes).2 i = flS s i := fun i => by show (ansS s1 k yes).2.2.1.getD _ _ = _; rw [a3]; rfl
      have hfr : ∀ i, flR r2 i = flR r1 i := fun i => by show r2.1.getD _ _ = _; rw [e1]; rfl
      by_cases hj : k = j
      · subst hj
        unfold AtK
        rcases a7 with a7 | ⟨a7, a8, a9⟩
        · rw [a7]; show flR r2 k = flS (ansS s1 k yes).2 k
          rw [hfl, hfr]; exact f1
        · rw [a7]
          refine ⟨g1, by show 0 ≤ b.2.1 + 1; omega, by rw [a2]; exact a9, rfl, ⟨m, g5, g6, g7⟩, fun h0 => ?_, fun _ => ⟨?_, e5⟩⟩
          · have h0 : b.2.1 + 1 = 0 := h0
            omega
          · rw [hfl, hfr]; exact f1
      · have hat := h.at_ j j0 j7
        unfold AtK at hat ⊢
        rw [a6 j hj, hfl, hfr, (f2 j j0 j7 hj).1, e3 j j0 j7 hj, (f2 j j0 j7 hj).2, a2]
        cases hbj : blk s j with
        | none => rw [hbj] at hat; exact hat
        | some c =>
          rw [hbj] at hat
          simp only at hat ⊢
          rw [e4 c.1 (fun e => h.df k j k0 k7 j0 j7 hj b c hb hbj e.symm)]
          exact hat
    · have old : ∀ i x, blk (ansS s1 k yes).2 i = some x → ∃ x', blk s i = some x' ∧ x'.1 = x.1 := by
        intro i x hx
        by_cases hi : k = i
        · subst hi
          rcases a7 with a7 | ⟨a7, _⟩
          · rw [a7] at hx; cases hx
          · rw [a7] at hx; cases hx; exact ⟨b, hb, rfl⟩
        · rw [a6 i hi] at hx; exact ⟨x, hx, rfl⟩
      obtain ⟨x', hx1, hx2⟩ := old i x hx
      obtain ⟨y', hy1, hy2⟩ := old j y hy
      rw [← hx2, ← hy2]
      exact h.df i j i0 i7 j0 j7 hij x' y' hx1 hy1
  rw [htk]
  split
  · rename_i ho
    have ho : opR r1 k = false := ho
    refine ⟨fun h => (by cases h), fun _ => ?_, (hans _).1, fin _ _ _ rfl f3.2 (fun _ _ _ _ => rfl) (fun _ _ => rfl) f4⟩
    show toldN es b.1 = 1
    rw [f4, ho]; rfl
  · rename_i ho
    have ho : opR r1 k = true := by
      cases hq : r1.2.1.getD k.toNat false with
      | true => exact hq
      | false => exact (ho hq).elim
    have hz : toldN es b.1 = 0 := by rw [f4, ho]; rfl
    cases heard with
    | true =>
      have ht : toldOf (b.1, true, true, (0 : Int)) es = putK .str es b.1 1 := by
        show putK .str es b.1 (toldN es b.1 + 1) = _
        rw [hz]; rfl
      simp only [if_true]
      refine ⟨fun _ => ⟨trivial, hz⟩, fun _ => ?_, (hans _).1, fin _ _ _ rfl (by simp [f3.2]) (fun j j0 j7 hj => getD_set_ne' (by omega)) (fun d hd => ?_) ?_⟩
      · rw [ht, toldN_put, if_pos rfl]
      · rw [ht, toldN_put, if_neg (Ne.symm hd)]
      · have : opR (r1.1, r1.2.1.set k.toNat false, ()) k = false := getD_set_eq' (by omega)
        rw [ht, toldN_put, if_pos rfl, this]; rfl
    | false =>
      simp only [Bool.false_eq_true, if_false]
      exact ⟨fun h => (by cases h), fun h => (by cases h), (hans _).1, fin _ _ _ rfl f3.2 (fun _ _ _ _ => rfl) (fun _ _ => rfl) f4⟩
theorem new_inv {limit : Int} (h : 1 ≤ limit ∧ limit ≤ 8) : HInv (limit, List.replicate 8 false, some [], ()) (List.replicate 8 false, List.replicate 8 false, ()) (List.replicate 8 ByteArray.empty) [] 0 := by
  refine ⟨h, rfl, List.Pairwise.nil, rfl, rfl, rfl, rfl, fun d hd => absurd rfl hd, fun k k0 k7 => rfl, fun k j _ _ _ _ _ a b ha => by cases ha⟩
end Go.Spec
