/- All places, once each; what is added is a sum: the order of adding makes no difference. -/
import Derived.Test.YtppemehkbnbjlaaM14
set_option linter.unusedVariables false
set_option linter.unusedSimpArgs false
namespace Go.Spec
open Go Go.Lift
theorem col_mem (n : Int) : ∀ (k : Nat) (p : Int), (n - p).toNat ≤ k → ∀ x ∈ Go.Proofs.Try.col n p, p ≤ x ∧ x % 8 = p % 8
  | 0, p, h => by rw [col_nil (by omega)]; intro x hx; cases hx
  | k + 1, p, h => by
    by_cases hp : p < n
    · rw [col_cons hp]
      intro x hx
      rcases List.mem_cons.1 hx with rfl | hx
      · omega
      · have := col_mem n k (p + 8) (by omega) x hx; omega
    · rw [col_nil (by omega)]; intro x hx; cases hx
theorem col_nodup (n : Int) : ∀ (k : Nat) (p : Int), (n - p).toNat ≤ k → (Go.Proofs.Try.col n p).Nodup
  | 0, p, h => by rw [col_nil (by omega)]; exact List.nodup_nil
  | k + 1, p, h => by
    by_cases hp : p < n
    · rw [col_cons hp]
      refine List.nodup_cons.2 ⟨fun hx => ?_, col_nodup n k (p + 8) (by omega)⟩
      have := (col_mem n k (p + 8) (by omega) p hx).1
      omega
    · rw [col_nil (by omega)]; exact List.nodup_nil
theorem flat_nodup (n : Int) : ∀ cs : List Int, (∀ c ∈ cs, 0 ≤ c ∧ c < 8) → cs.Nodup → (cs.flatMap (Go.Proofs.Try.col n)).Nodup
  | [], _, _ => List.nodup_nil
  | c :: cs, h, hn => by
    rw [List.flatMap_cons]
    obtain ⟨h1, h2⟩ := List.nodup_cons.1 hn
    refine List.nodup_append.2 ⟨col_nodup n _ c (Nat.le_refl _), flat_nodup n cs (fun x hx => h x (List.mem_cons_of_mem _ hx)) h2, fun a ha b hb e => ?_⟩
    subst e
    obtain ⟨d, hd, hb⟩ := List.mem_flatMap.1 hb
    have e1 := (col_mem n _ c (Nat.le_refl _) a ha).2
    have e2 := (col_mem n _ d (Nat.le_refl _) a hb).2
    have := h c (List.mem_cons_self ..)
    have := h d (List.mem_cons_of_mem _ hd)
    have : c = d := by omega
    subst this
    exact h1 hd
theorem turnL_nodup (n : Int) : (turnL n).Nodup := by
  rw [turnL_eq]
  refine flat_nodup n cols (fun c hc => ?_) (by decide)
  simp [cols, Go.Proofs.Try.cols] at hc; omega
/-- What a list of places and signs adds to a place. -/
def cAt : List Int → List Int → Int → Int
  | p :: ps, s :: ss, q => (if p = q then s else 0) + cAt ps ss q
  | _, _, _ => 0
theorem cAt_bound : ∀ (ps ss : List Int) (q : Int) (B : Int), 0 ≤ B → (∀ s ∈ ss, -B ≤ s ∧ s ≤ B) → -(B * ss.length) ≤ cAt ps ss q ∧ cAt ps ss q ≤ B * ss.length
  | [], ss, q, B, hB, h => by
    have : 0 ≤ B * (ss.length : Int) := Int.mul_nonneg hB (Int.natCast_nonneg _)
    simp only [cAt]; omega
  | _ :: _, [], q, B, hB, h => by simp [cAt]
  | p :: ps, s :: ss, q, B, hB, h => by
    have ih := cAt_bound ps ss q B hB fun x hx => h x (List.mem_cons_of_mem _ hx)
    have hs := h s (List.mem_cons_self ..)
    have e : B * ((s :: ss).length : Int) = B * ss.length + B := by rw [List.length_cons]; rw [Int.natCast_add, Int.mul_add]; simp
    rw [e]
    simp only [cAt]
    split <;> omega
end Go.Spec
