/- The runs of the functions, told. -/
import Derived.Test.YtfkedbncidahjaaLF
import Derived.Test.YtfkedbncidahjaaProg
import Derived.Test.YtfkedbncidahjaaEA
import Derived.Test.YtfkedbncidahjaaV1
import Derived.Test.YtfkedbncidahjaaV4
import Derived.Test.YtfkedbncidahjaaV10b
set_option linter.unusedVariables false
set_option linter.unusedSimpArgs false
namespace Go.Spec
open Go Go.Lift Go.Proofs
attribute [local irreducible] Go.Lift.awp
theorem R_R_Decode_4 (t0 : (List Int)) (t4 : Int) (t6 : Int) (t8 : Int) (t9 : Int) (r0 : (List ((List Int) × (Int × (Bool × Unit))))) (r1 : (List ((List Int) × (Int × (Bool × Unit))))) (m : Nat) (K : AExit → St → Prop) : awp E_R_Decode (loopAt (bodyOf Try.f52) 4) 4 (roundP E_R_Decode 4 L_R_Decode_4 m K) (L_R_Decode_4.abs (t0, t4, t6, t8, t9, ()) (r0, r1, ())) = B_R_Decode_4 t0 t4 t6 t8 t9 r0 r1 m K := by kernel_rfl
theorem I_R_Decode_4 (h : ∀ (t0 : (List Int)) (t4 : Int) (t6 : Int) (t8 : Int) (t9 : Int) (r0 : (List ((List Int) × (Int × (Bool × Unit))))) (r1 : (List ((List Int) × (Int × (Bool × Unit))))) (K : AExit → St → Prop), p_R_Decode_4 t0 t4 t6 t8 t9 r0 r1 → o_R_Decode_4 t0 t4 t6 t8 t9 r0 r1 K → B_R_Decode_4 t0 t4 t6 t8 t9 r0 r1 (m_R_Decode_4 t0 t4 t6 t8 t9 r0 r1) K) : LoopOK E_R_Decode 4 (loopAt (bodyOf Try.f52) 4) L_R_Decode_4 :=
  fun x y K hp ho => match x, y, hp, ho with | (t0, t4, t6, t8, t9, ()), (r0, r1, ()), hp, ho => (R_R_Decode_4 t0 t4 t6 t8 t9 r0 r1 (m_R_Decode_4 t0 t4 t6 t8 t9 r0 r1) K).mpr (h t0 t4 t6 t8 t9 r0 r1 K hp ho)
theorem G_R_Decode : loopsAll E_R_Decode (loopList (bodyOf Try.f52) 0) = (LoopOK E_R_Decode 0 (loopAt (bodyOf Try.f52) 0) L_R_Decode_0 ∧ LoopOK E_R_Decode 2 (loopAt (bodyOf Try.f52) 2) L_R_Decode_2 ∧ LoopOK E_R_Decode 4 (loopAt (bodyOf Try.f52) 4) L_R_Decode_4 ∧ True) := by kernel_rfl
theorem envok_R_Decode (h_R_Score : SumOK Try.prog 50 S_R_Score) (h_R_Ahead : SumOK Try.prog 69 S_R_Ahead) : EnvOK E_R_Decode := ⟨sumsOf_ok (List.forall_mem_cons.2 ⟨h_R_Score, (List.forall_mem_cons.2 ⟨h_R_Ahead, (fun _ h => nomatch h)⟩)⟩), follows⟩
theorem whole_R_Decode (h_R_Score : SumOK Try.prog 50 S_R_Score) (h_R_Ahead : SumOK Try.prog 69 S_R_Ahead) (l0 : LoopOK E_R_Decode 0 (loopAt (bodyOf Try.f52) 0) L_R_Decode_0) (l2 : LoopOK E_R_Decode 2 (loopAt (bodyOf Try.f52) 2) L_R_Decode_2) (l4 : LoopOK E_R_Decode 4 (loopAt (bodyOf Try.f52) 4) L_R_Decode_4) (main : ∀ (a0 : (List Int)), (decErr a0 = (0 : Int)) → W_R_Decode a0) : SumOK Try.prog 52 S_R_Decode :=
  fun_sound (E := E_R_Decode) (envok_R_Decode h_R_Score h_R_Ahead) (fn := Try.f52) (c := bodyOf Try.f52) (ts := [(2, none), (3, none)]) S_R_Decode Try.func52 (body_some (by kernel_rfl)) (by kernel_rfl) (by kernel_rfl) (by kernel_rfl) (G_R_Decode.mpr ⟨l0, l2, l4, trivial⟩) (fun x hp => match x, hp with | (a0, ()), hp => (V_R_Decode a0).mpr (main a0 hp))
/-! ### law_ConvDecodes -/
noncomputable def E_law_ConvDecodes : Env := { P := Try.prog, sum := sumsOf [(51, S_conv_Decode), (44, S_R_Soft), (52, S_R_Decode), (25, S_R_SameBits)], nio := 0, head := fun b => ([], []), after := fun _ => none, leave := fun b => [], loops := fun b => none }
def W_law_ConvDecodes (a0 : (List Int)) : Prop := (
  ((↑(List.length a0) : Int) ≤ big) ∧
  ((3 : Int) ≠ (0 : Int)) ∧
  ((↑(List.length a0) : Int) ≤ big) ∧
  ((!softB a0) = false → (3 : Int) ≠ (0 : Int)) ∧
  condP (if (if (if (!softB a0) = true then true else Int.tmod (↑(List.length a0) : Int) (3 : Int) != (0 : Int)) = true then true else decide (IntKind.wrap IntKind.i64 (IntKind.wrap IntKind.i64 (Int.tdiv (↑(List.length a0) : Int) (3 : Int)) - (6 : Int)) < (0 : Int))) = true then true else decide (IntKind.wrap IntKind.i64 (IntKind.wrap IntKind.i64 (Int.tdiv (↑(List.length a0) : Int) (3 : Int)) - (6 : Int)) > (400 : Int)))
    (((if (if (decErr a0 == (1 : Int)) = true then (↑(List.length (decL a0)) : Int) == (0 : Int) else false) = true then decV a0 == (0 : Int) else false) = true) ∧
    True)
    ((decErr a0 = (0 : Int)) ∧
    ((decErr a0 == (0 : Int)) = true → (↑(List.length (decL a0)) : Int) ≤ big) ∧
    ((if (if (decErr a0 == (0 : Int)) = true then decide (decL a0 = decL a0) else false) = true then decV a0 == decV a0 else false) = true) ∧
    True))
theorem V_law_ConvDecodes (a0 : (List Int)) : awp E_law_ConvDecodes (bodyOf Try.f14) 0 (fin Try.prog S_law_ConvDecodes (a0, ()) [(2, none)] 0) (initSt S_law_ConvDecodes.par (a0, ()) 64) = W_law_ConvDecodes a0 := by kernel_rfl
theorem G_law_ConvDecodes : loopsAll E_law_ConvDecodes (loopList (bodyOf Try.f14) 0) = (True) := by kernel_rfl
theorem envok_law_ConvDecodes (h_conv_Decode : SumOK Try.prog 51 S_conv_Decode) (h_R_Soft : SumOK Try.prog 44 S_R_Soft) (h_R_Decode : SumOK Try.prog 52 S_R_Decode) (h_R_SameBits : SumOK Try.prog 25 S_R_SameBits) : EnvOK E_law_ConvDecodes := ⟨sumsOf_ok (List.forall_mem_cons.2 ⟨h_conv_Decode, (List.forall_mem_cons.2 ⟨h_R_Soft, (List.forall_mem_cons.2 ⟨h_R_Decode, (List.forall_mem_cons.2 ⟨h_R_SameBits, (fun _ h => nomatch h)⟩)⟩)⟩)⟩), follows⟩
theorem whole_law_ConvDecodes (h_conv_Decode : SumOK Try.prog 51 S_conv_Decode) (h_R_Soft : SumOK Try.prog 44 S_R_Soft) (h_R_Decode : SumOK Try.prog 52 S_R_Decode) (h_R_SameBits : SumOK Try.prog 25 S_R_SameBits)  (main : ∀ (a0 : (List Int)), ((↑(List.length a0) : Int) ≤ big) → W_law_ConvDecodes a0) : SumOK Try.prog 14 S_law_ConvDecodes :=
  fun_sound (E := E_law_ConvDecodes) (envok_law_ConvDecodes h_conv_Decode h_R_Soft h_R_Decode h_R_SameBits) (fn := Try.f14) (c := bodyOf Try.f14) (ts := [(2, none)]) S_law_ConvDecodes Try.func14 (body_some (by kernel_rfl)) (by kernel_rfl) (by kernel_rfl) (by kernel_rfl) (G_law_ConvDecodes.mpr trivial) (fun x hp => match x, hp with | (a0, ()), hp => (V_law_ConvDecodes a0).mpr (main a0 hp))
end Go.Spec
