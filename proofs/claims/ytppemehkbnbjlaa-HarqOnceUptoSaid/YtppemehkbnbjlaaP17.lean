/- The law says yes: each block is told at most once. -/
import Derived.Test.YtppemehkbnbjlaaV11
import Derived.Test.YtppemehkbnbjlaaP16
set_option linter.unusedVariables false
set_option linter.unusedSimpArgs false
namespace Go.Spec
open Go Go.Lift Go.Proofs
attribute [local irreducible] Go.Lift.awp Go.Lift.LoopOK Go.Lift.SumOK
theorem and_small7 (x : Int) (m : Nat) (hm : m < 4611686018427387904) : 0 ≤ bits BinOp.and .i64 x (m : Int) ∧ bits BinOp.and .i64 x (m : Int) ≤ m := by
  have h : bits BinOp.and .i64 x (m : Int) = IntKind.wrap .i64 ((BitVec.ofInt 64 x &&& BitVec.ofInt 64 (m : Int)).toNat : Int) := rfl
  have h2 : (BitVec.ofInt 64 x &&& BitVec.ofInt 64 (m : Int)).toNat ≤ m := by
    rw [BitVec.toNat_and]
    refine Nat.le_trans Nat.and_le_right ?_
    rw [BitVec.ofInt_natCast, BitVec.toNat_ofNat]
    exact Nat.mod_le _ _
  rw [h, IntWalk.i64_in _ (by omega)]
  omega
def goodL (b : List Int) (most : Nat) : List Int := (b.take most).map (· % 2)
def sgS (c x : Int) : Int := if c = 1 then -x else x
def lvF (loud : List Int) (i : Nat) : Int :=
  if loud = [] then 1 else if loud.getD (i % loud.length) 0 < 1 ∨ loud.getD (i % loud.length) 0 > 100000 then 7 else loud.getD (i % loud.length) 0
def hrd (c loud : List Int) : List Int := seg (fun i => sgS (c.getD i 0) (lvF loud i)) 0 c.length
def smallL (l : List Int) : List Int := l.map fun x => IntKind.wrap .i64 (1 + bits BinOp.and .i64 x 3)
theorem l_keep_HarqOnce_0 : LoopOK E_keep_HarqOnce 0 (loopAt (bodyOf Try.f10) 0) L_keep_HarqOnce_0 := I_keep_HarqOnce_0 <| by
  intro t1 t10 t11 r0 r1 r2 r3 K hp ho
  obtain ⟨h1, h2, h3, h4, h5, s, es, rfl, rfl, hI⟩ := hp
  unfold B_keep_HarqOnce_0
  unfold o_keep_HarqOnce_0 at ho ⊢
  have hnext : ∀ (n : Int) (s' : HS) (r' : Flags) (l' : List ByteArray) (es' : Told), t11 < t1.length → 0 ≤ n → n ≤ t11 + 1 → HInv s' r' l' es' n →
      p_keep_HarqOnce_0 t1 n (IntKind.wrap .i64 (t11 + 1)) (some s') r' l' (some es') ∧
      m_keep_HarqOnce_0 t1 n (IntKind.wrap .i64 (t11 + 1)) (some s') r' l' (some es') < m_keep_HarqOnce_0 t1 t10 t11 (some s) r1 r2 (some es) := by
    intro n s' r' l' es' hlt h6 h7 h8
    rw [i64w (by omega)]
    exact ⟨⟨by omega, by omega, h3, h6, h7, s', es', rfl, rfl, h8⟩, by unfold m_keep_HarqOnce_0; omega⟩
  have hw : IntKind.wrap .i64 (t10 + 1) = t10 + 1 := i64w (by omega)
  simp only [Option.getD_some, Option.isSome_some, hw]
  generalize List.getD t1 (Int.toNat t11) (0 : Int) = li
  have hkk : 0 ≤ bits BinOp.and .i64 li 7 ∧ bits BinOp.and .i64 li 7 ≤ 7 := and_small7 li 7 (by decide)
  generalize bits BinOp.and .i64 li 7 = kk at hkk ⊢
  generalize (bits BinOp.and IntKind.i64 (Int.fdiv li ((2 : Int) ^ min (3 : Nat) (IntKind.bits IntKind.i64))) (1 : Int) == (0 : Int)) = c3
  generalize (bits BinOp.and IntKind.i64 (Int.fdiv li ((2 : Int) ^ min (4 : Nat) (IntKind.bits IntKind.i64))) (1 : Int) == (1 : Int)) = heard
  generalize (bits BinOp.and IntKind.i64 (Int.fdiv li ((2 : Int) ^ min (5 : Nat) (IntKind.bits IntKind.i64))) (1 : Int) == (1 : Int)) = bit
  have htx : (ByteArray.mk #[(98 : UInt8), (108 : UInt8), (111 : UInt8), (99 : UInt8), (107 : UInt8), (32 : UInt8)] ++ strOfNums [IntKind.wrap IntKind.u8 (Int.fdiv t10 ((2 : Int) ^ min (24 : Nat) (IntKind.bits IntKind.i64))), IntKind.wrap IntKind.u8 (Int.fdiv t10 ((2 : Int) ^ min (16 : Nat) (IntKind.bits IntKind.i64))), IntKind.wrap IntKind.u8 (Int.fdiv t10 ((2 : Int) ^ min (8 : Nat) (IntKind.bits IntKind.i64))), IntKind.wrap IntKind.u8 t10]) = textOf t10 := rfl
  simp only [htx]
  by_cases hlt : t11 < (t1.length : Int)
  case neg =>
    rw [condP_f (by simpa using hlt)]
    exact ho
  rw [condP_t (by simpa using hlt)]
  refine ⟨h1, hlt, h1, hlt, by decide, ?_⟩
  cases c3 with
  | true =>
    rw [condP_t rfl]
    refine ⟨by decide, by decide, by decide, by show ((10 : Nat) : Int) ≤ 9223372036854775807; decide, trivial, hI.mp, ?_⟩
    rcases sub_inv hI h4 (by omega) with ⟨e1, e2, e3, e4⟩ | ⟨e1, e2⟩
    · rw [condP_t (by simp [e1])]
      refine ⟨e2, e3, ?_⟩
      obtain ⟨g1, g2⟩ := hnext _ _ _ _ _ hlt (by omega) (by omega) e4
      exact ⟨g1, g2, ho⟩
    · rw [condP_f (by simp [e1]), condP_f (by simp [e1]), e2]
      obtain ⟨g1, g2⟩ := hnext _ _ _ _ _ hlt h4 (by omega) hI
      exact ⟨g1, g2, ho⟩
  | false =>
    rw [condP_f rfl]
    refine ⟨trivial, fun _ b hb => ?_, ?_⟩
    · have hk := hI.at_ kk hkk.1 hkk.2
      unfold AtK at hk
      rw [hb] at hk
      obtain ⟨_, g2, g3, _⟩ := hk
      have := hI.lim
      exact ⟨g2, by omega⟩
    rcases next_inv hI hkk.1 hkk.2 with ⟨e1, e2⟩ | ⟨b, hb, hN, hd⟩
    · rw [condP_t (by simp [e1]), e2]
      obtain ⟨g1, g2⟩ := hnext _ _ _ _ _ hlt h4 (by omega) hI
      exact ⟨g1, g2, ho⟩
    · simp only [hN]
      rw [condP_f (c := ((0 : Int) != 0)) rfl]
      have hd' : r2.getD kk.toNat ByteArray.empty = b.1 := hd.symm
      refine ⟨h1, hlt, by decide, hkk.1, by omega, ?_⟩
      have hsn : (sentB s kk b).2.2.1.isSome = true := by show (setO _ _ _).isSome = true; rw [setO_isSome]; exact hI.mp
      have hsh : (shotOf s kk b true).2.2.2.1 = b.1 := rfl
      simp only [hsh, hd']
      rw [condP_f (by simp)]
      obtain ⟨i1, i2, i3, i4⟩ := step_inv hI hkk.1 hkk.2 hb heard bit
      have hyb : ∀ (a c : Bool), (if a = true then c else false) = (a && c) := by intro a c; cases a <;> rfl
      have hw1 : IntKind.wrap .i64 (0 + 1) = 1 := i64w (by omega)
      have hk0 := hkk.1
      have hk7 : kk < ((8 : Nat) : Int) := by omega
      have hts : ∀ (d : ByteArray) (fr ys : Bool) (er : Int), toldOf (d, fr, ys, er) es = if fr = true then putK .str es d (toldN es d + 1) else es := fun _ _ _ _ => rfl
      cases heard with
      | true =>
        rw [condP_f (c := !true) rfl]
        have hT : takeOf true r1 (shotOf s kk b true) true = takenOf s r1 kk b true := rfl
        simp only [hT, hyb]
        generalize takenOf s r1 kk b true = T at i1 i2 i3 i4 ⊢
        obtain ⟨⟨d, fr, ys, er⟩, r'⟩ := T
        simp only [hts] at i1 i2 i3 i4
        cases fr with
        | true =>
          obtain ⟨rfl, h0⟩ := i1 rfl
          have h0' : (findK Ty.str es b.1).getD 0 = 0 := h0
          simp only [h0, if_true, Int.zero_add] at i2 i3 i4
          obtain ⟨g1, g2⟩ := hnext _ _ _ _ _ hlt h4 (by omega) i4
          rw [condP_t rfl]
          simp only [h0', hw1, findK_putK, if_true, Option.getD_some]
          cases ys <;> cases bit <;> simp_all [condP_iff]
        | false =>
          rw [condP_f rfl]
          simp only [Bool.false_eq_true, if_false] at i2 i3 i4
          obtain ⟨g1, g2⟩ := hnext _ _ _ _ _ hlt h4 (by omega) i4
          unfold toldN at i2
          cases ys <;> cases bit <;> simp_all [condP_iff]
      | false =>
        rw [condP_t (c := !false) rfl]
        have hT : takeOf true r1 (Prod.fst (shotOf s kk b true), Prod.fst (Prod.snd (shotOf s kk b true)), Prod.fst (Prod.snd (Prod.snd (shotOf s kk b true))), ByteArray.mk #[], Prod.snd (Prod.snd (Prod.snd (Prod.snd (shotOf s kk b true))))) false = takenOf s r1 kk b false := rfl
        simp only [hT, hyb]
        generalize takenOf s r1 kk b false = T at i1 i2 i3 i4 ⊢
        obtain ⟨⟨d, fr, ys, er⟩, r'⟩ := T
        simp only [hts] at i1 i2 i3 i4
        refine ⟨trivial, ?_⟩
        cases fr with
        | true =>
          obtain ⟨rfl, h0⟩ := i1 rfl
          have h0' : (findK Ty.str es b.1).getD 0 = 0 := h0
          simp only [h0, if_true, Int.zero_add] at i2 i3 i4
          obtain ⟨g1, g2⟩ := hnext _ _ _ _ _ hlt h4 (by omega) i4
          rw [condP_t rfl]
          simp only [h0', hw1, findK_putK, if_true, Option.getD_some]
          cases ys <;> cases bit <;> simp_all [condP_iff]
        | false =>
          rw [condP_f rfl]
          simp only [Bool.false_eq_true, if_false] at i2 i3 i4
          obtain ⟨g1, g2⟩ := hnext _ _ _ _ _ hlt h4 (by omega) i4
          unfold toldN at i2
          cases ys <;> cases bit <;> simp_all [condP_iff]
theorem ok_keep_HarqOnce : SumOK Try.prog 10 S_keep_HarqOnce := by
  refine whole_keep_HarqOnce ok_harq_NewSender ok_harq_NewReceiver ok_harq_Sender_Submit ok_harq_Sender_Next ok_harq_Receiver_Take ok_harq_Sender_Answer l_keep_HarqOnce_0 ?_
  intro a0 a1 hp
  have hp : (a1.length : Int) ≤ 1048576 := hp
  unfold W_keep_HarqOnce newS
  by_cases h : 1 ≤ a0 ∧ a0 ≤ 8
  · rw [if_pos h]
    refine ⟨trivial, ?_⟩
    rw [condP_f (c := ((0 : Int) != 0)) rfl]
    exact ⟨trivial, ⟨by omega, by omega, hp, by omega, by omega, _, _, rfl, rfl, new_inv h⟩, rfl, trivial⟩
  · rw [if_neg h]
    refine ⟨trivial, ?_⟩
    rw [condP_t (c := ((1 : Int) != 0)) rfl]
    exact ⟨rfl, trivial⟩
end Go.Spec
