/- Both cores, side by side: what one answers the other answers. -/
import Derived.Test.YtppemehkbnbjlaaM4
import Derived.Test.YtppemehkbnbjlaaS3
set_option linter.unusedVariables false
set_option linter.unusedSimpArgs false
namespace Go.Spec
open Go Go.Lift
theorem w64_id {n : Int} (h : -9223372036854775808 ≤ n ∧ n ≤ 9223372036854775807) : w64 n = n := IntWalk.i64_in n h
def Two {α β : Type} (R : α → β → Prop) : List α → List β → Prop
  | [], [] => True
  | a :: as, b :: bs => R a b ∧ Two R as bs
  | _, _ => False
theorem Two.length {α β : Type} {R : α → β → Prop} : ∀ {as : List α} {bs : List β}, Two R as bs → as.length = bs.length
  | [], [], _ => rfl
  | _ :: _, _ :: _, h => by simp [Two.length h.2]
  | [], _ :: _, h => h.elim
  | _ :: _, [], h => h.elim
theorem Two.mono {α β : Type} {R R' : α → β → Prop} (hR : ∀ a b, R a b → R' a b) : ∀ {as : List α} {bs : List β}, Two R as bs → Two R' as bs
  | [], [], _ => trivial
  | _ :: _, _ :: _, h => ⟨hR _ _ h.1, Two.mono hR h.2⟩
  | [], _ :: _, h => h.elim
  | _ :: _, [], h => h.elim
theorem Two.get {α β : Type} {R : α → β → Prop} : ∀ {as : List α} {bs : List β}, Two R as bs → ∀ (i : Nat) (h : i < as.length) (h' : i < bs.length), R as[i] bs[i]
  | [], [], _, i, h, _ => by simp at h
  | a :: as, b :: bs, H, 0, _, _ => H.1
  | a :: as, b :: bs, H, i + 1, h, h' => Two.get H.2 i (by simpa using h) (by simpa using h')
  | [], _ :: _, H, _, _, _ => H.elim
  | _ :: _, [], H, _, _, _ => H.elim
theorem Two.set {α β : Type} {R : α → β → Prop} {a : α} {b : β} (h : R a b) : ∀ {as : List α} {bs : List β}, Two R as bs → ∀ i, Two R (as.set i a) (bs.set i b)
  | [], [], _, _ => trivial
  | _ :: _, _ :: _, H, 0 => ⟨h, H.2⟩
  | _ :: _, _ :: _, H, i + 1 => ⟨H.1, Two.set h H.2 i⟩
  | [], _ :: _, H, _ => H.elim
  | _ :: _, [], H, _ => H.elim
theorem Two.snoc {α β : Type} {R : α → β → Prop} {a : α} {b : β} (h : R a b) : ∀ {as : List α} {bs : List β}, Two R as bs → Two R (as ++ [a]) (bs ++ [b])
  | [], [], _ => ⟨h, trivial⟩
  | _ :: _, _ :: _, H => ⟨H.1, Two.snoc h H.2⟩
  | [], _ :: _, H => H.elim
  | _ :: _, [], H => H.elim
theorem Two.left {α β : Type} {R : α → β → Prop} : ∀ {as : List α} {bs : List β}, Two R as bs → ∀ a ∈ as, ∃ b, R a b
  | [], [], _, a, h => by simp at h
  | x :: as, y :: bs, H, a, h => by
    rcases List.mem_cons.1 h with h | h
    · subst h; exact ⟨y, H.1⟩
    · exact Two.left H.2 a h
  | [], _ :: _, H, _, _ => H.elim
  | _ :: _, [], H, _, _ => H.elim
def gl (m : PMap) (g : Option GR) (l : LN) : Prop :=
  ∃ who has tu cl bs us, g = some (who, has, tu, cl, ()) ∧ l = (who, bs, us, tu, cl, ()) ∧ 1 ≤ who ∧ who ≤ 16 ∧ (per m who).isSome = true ∧ 0 ≤ us ∧ us ≤ bs ∧ bs ≤ 1000000 ∧ (cl = true → has = 0) ∧ (cl = false → has = bs - us)
def lentOf (w : Int) (l : LN) : Int := if l.1 = w ∧ l.2.2.2.2.1 = false then l.2.1 - l.2.2.1 else 0
def usedOf (w : Int) (l : LN) : Int := if l.1 = w then l.2.2.1 else 0
def lentS (w : Int) : List LN → Int
  | [] => 0
  | l :: ls => lentOf w l + lentS w ls
def usedS (w : Int) : List LN → Int
  | [] => 0
  | l :: ls => usedOf w l + usedS w ls
theorem lentS_app (w : Int) : ∀ (a b : List LN), lentS w (a ++ b) = lentS w a + lentS w b
  | [], b => by simp [lentS]
  | x :: a, b => by simp only [List.cons_append, lentS, lentS_app w a b]; omega
theorem usedS_app (w : Int) : ∀ (a b : List LN), usedS w (a ++ b) = usedS w a + usedS w b
  | [], b => by simp [usedS]
  | x :: a, b => by simp only [List.cons_append, usedS, usedS_app w a b]; omega
theorem lentS_set (w : Int) : ∀ (ls : List LN) (i : Nat) (h : i < ls.length) (l : LN), lentS w (ls.set i l) = lentS w ls - lentOf w ls[i] + lentOf w l
  | [], i, h, _ => by simp at h
  | x :: ls, 0, _, l => by simp only [List.set_cons_zero, lentS, List.getElem_cons_zero]; omega
  | x :: ls, i + 1, h, l => by
    have := lentS_set w ls i (by simpa using h) l
    simp only [List.set_cons_succ, lentS, List.getElem_cons_succ, this]; omega
theorem usedS_set (w : Int) : ∀ (ls : List LN) (i : Nat) (h : i < ls.length) (l : LN), usedS w (ls.set i l) = usedS w ls - usedOf w ls[i] + usedOf w l
  | [], i, h, _ => by simp at h
  | x :: ls, 0, _, l => by simp only [List.set_cons_zero, usedS, List.getElem_cons_zero]; omega
  | x :: ls, i + 1, h, l => by
    have := usedS_set w ls i (by simpa using h) l
    simp only [List.set_cons_succ, usedS, List.getElem_cons_succ, this]; omega
theorem gl_nonneg {m : PMap} {g : Option GR} {l : LN} (h : gl m g l) (w : Int) : 0 ≤ lentOf w l ∧ 0 ≤ usedOf w l ∧ (l.1 = w → l.2.2.2.2.1 = false → lentOf w l = l.2.1 - l.2.2.1) := by
  obtain ⟨who, has, tu, cl, bs, us, _, rfl, _, _, _, h1, h2, _⟩ := h
  refine ⟨?_, ?_, fun e1 e2 => ?_⟩
  · unfold lentOf; split
    · show 0 ≤ bs - us; omega
    · exact Int.le_refl _
  · unfold usedOf; split
    · exact h1
    · exact Int.le_refl _
  · unfold lentOf; rw [if_pos ⟨e1, e2⟩]
theorem sums_nonneg {m : PMap} (w : Int) : ∀ {gs : List (Option GR)} {ls : List LN}, Two (gl m) gs ls → 0 ≤ lentS w ls ∧ 0 ≤ usedS w ls
  | [], [], _ => ⟨Int.le_refl _, Int.le_refl _⟩
  | g :: gs, l :: ls, h => by
    obtain ⟨h1, h2⟩ := sums_nonneg w h.2
    obtain ⟨h3, h4, _⟩ := gl_nonneg h.1 w
    simp only [lentS, usedS]; omega
  | [], _ :: _, h => h.elim
  | _ :: _, [], h => h.elim
/-- Each loan is within the sums. -/
theorem sum_at {m : PMap} (w : Int) : ∀ {gs : List (Option GR)} {ls : List LN}, Two (gl m) gs ls → ∀ i (h : i < ls.length), lentOf w ls[i] ≤ lentS w ls ∧ usedOf w ls[i] ≤ usedS w ls
  | [], [], _, i, h => by simp at h
  | g :: gs, l :: ls, H, 0, _ => by
    obtain ⟨h1, h2⟩ := sums_nonneg w H.2
    simp only [lentS, usedS, List.getElem_cons_zero]; omega
  | g :: gs, l :: ls, H, i + 1, h => by
    obtain ⟨h3, h4, _⟩ := gl_nonneg H.1 w
    obtain ⟨h1, h2⟩ := sum_at w H.2 i (by simpa using h)
    simp only [lentS, usedS, List.getElem_cons_succ]; omega
  | [], _ :: _, H, _, _ => H.elim
  | _ :: _, [], H, _, _ => H.elim
theorem sums_none {m : PMap} {w : Int} (hw : per m w = none) : ∀ {gs : List (Option GR)} {ls : List LN}, Two (gl m) gs ls → lentS w ls = 0 ∧ usedS w ls = 0
  | [], [], _ => ⟨rfl, rfl⟩
  | g :: gs, l :: ls, h => by
    obtain ⟨h1, h2⟩ := sums_none hw h.2
    obtain ⟨who, has, tu, cl, bs, us, _, rfl, _, _, h5, _⟩ := h.1
    have hne : ¬ who = w := fun e => by rw [e, hw] at h5; cases h5
    simp only [lentS, usedS, lentOf, usedOf, hne, false_and, if_false, h1, h2]; omega
  | [], _ :: _, h => h.elim
  | _ :: _, [], h => h.elim
/-- What the document's record adds up. -/
theorem recL_eq {m : PMap} (w : Int) : ∀ {gs : List (Option GR)} {ls : List LN} (e : RE), Two (gl m) gs ls → 0 ≤ e.2.1 → 0 ≤ e.2.2.1 → e.2.1 + lentS w ls ≤ 1000000000000 → e.2.2.1 + usedS w ls ≤ 1000000000000 →
    recL w ls e = (e.1, e.2.1 + lentS w ls, e.2.2.1 + usedS w ls, e.2.2.2)
  | [], [], e, _, _, _, _, _ => by simp [recL, lentS, usedS]
  | g :: gs, l :: ls, e, h, h1, h2, h3, h4 => by
    obtain ⟨who, has, tu, cl, bs, us, _, rfl, _, _, _, k1, k2, k3, _⟩ := h.1
    obtain ⟨n1, n2⟩ := sums_nonneg w h.2
    obtain ⟨a, b, c, ⟨⟩⟩ := e
    have h1 : 0 ≤ b := h1
    have h2 : 0 ≤ c := h2
    have h3 : b + lentS w ((who, bs, us, tu, cl, ()) :: ls) ≤ 1000000000000 := h3
    have h4 : c + usedS w ((who, bs, us, tu, cl, ()) :: ls) ≤ 1000000000000 := h4
    simp only [lentS, usedS, lentOf, usedOf] at h3 h4
    by_cases hw : who = w
    · subst hw
      have e2 : w64 (c + us) = c + us := w64_id (by simp at h4; omega)
      cases cl with
      | true =>
        have ih := recL_eq who (gs := gs) (ls := ls) (a, b, c + us, ()) h.2 h1 (by show 0 ≤ c + us; omega) (by show b + _ ≤ _; simp at h3; omega) (by show c + us + _ ≤ _; simp at h4; omega)
        simp only [recL, ne_eq, not_true_eq_false, if_false, Bool.true_eq_false, e2, ih, lentS, usedS, lentOf, usedOf, and_false, if_true]
        simp only [Prod.mk.injEq, true_and, and_true]
        omega
      | false =>
        have e3 : w64 (bs - us) = bs - us := w64_id (by omega)
        have e4 : w64 (b + (bs - us)) = b + (bs - us) := w64_id (by simp at h3; omega)
        have ih := recL_eq who (gs := gs) (ls := ls) (a, b + (bs - us), c + us, ()) h.2 (by show 0 ≤ b + (bs - us); omega) (by show 0 ≤ c + us; omega) (by show b + (bs - us) + _ ≤ _; simp at h3; omega) (by show c + us + _ ≤ _; simp at h4; omega)
        simp only [recL, ne_eq, not_true_eq_false, if_false, if_true, e2, e3, e4, ih, lentS, usedS, lentOf, usedOf, and_self]
        simp only [Prod.mk.injEq, true_and, and_true]
        omega
    · have ih := recL_eq w (gs := gs) (ls := ls) (a, b, c, ()) h.2 h1 h2 (by show b + _ ≤ _; simp [hw] at h3; omega) (by show c + _ ≤ _; simp [hw] at h4; omega)
      simp only [recL, ne_eq, hw, not_false_eq_true, if_true, ih, lentS, usedS, lentOf, usedOf, false_and, if_false]
      simp only [Prod.mk.injEq, true_and, and_true]
      omega
  | [], _ :: _, _, h, _, _, _, _ => h.elim
  | _ :: _, [], _, h, _, _, _, _ => h.elim
/-- One person, on both sides. -/
def pOK (r : RC) (w : Int) (p : PR) : Prop :=
  knB r w = true ∧ (ps r w).2.1 = !(p.1 == 0) ∧ (p.1 = 0 ∨ p.1 = 1 ∨ p.1 = 2) ∧ (p.1 ≠ 0 → (ps r w).2.2.1 = (p.1 == 2) ∧ (ps r w).2.2.2.1 = p.2.1 ∧ isC p.2.1 = true) ∧
  0 ≤ (ps r w).2.2.2.2.1 ∧ (ps r w).2.2.2.2.1 ≤ 1000000000 ∧ p.2.2.1 = ((ps r w).2.2.2.2.1 - lentS w r.2.2.1 - usedS w r.2.2.1, lentS w r.2.2.1, usedS w r.2.2.1, ()) ∧ 0 ≤ p.2.2.1.1
def CR (c : CS) (r : RC) : Prop :=
  c.1 = r.1 ∧ 1 ≤ c.1 ∧ c.1 ≤ 1000000 ∧ c.2.1.isSome = true ∧ r.2.1.length = 17 ∧ Two (gl c.2.1) c.2.2.1 r.2.2.1 ∧
  ∀ w, match per c.2.1 w with
    | none => knB r w = false
    | some p => pOK r w p
theorem rec_eq {c : CS} {r : RC} (h : CR c r) (w : Int) : recC c w = recR r w := by
  obtain ⟨_, _, _, _, _, h6, h7⟩ := h
  have h7 := h7 w
  unfold recC recR
  cases hp : per c.2.1 w with
  | none => rw [hp] at h7; simp only [h7, if_true]
  | some p =>
    rw [hp] at h7
    obtain ⟨k1, _, _, _, k5, k6, k7, k8⟩ := h7
    obtain ⟨n1, n2⟩ := sums_nonneg w h6
    have k8' := k8
    rw [k7] at k8'
    have k8' : 0 ≤ (ps r w).2.2.2.2.1 - lentS w r.2.2.1 - usedS w r.2.2.1 := k8'
    have e : recE r w = (0, lentS w r.2.2.1, usedS w r.2.2.1, ()) := by
      unfold recE
      rw [recL_eq w (0, 0, 0, ()) h6 (Int.le_refl _) (Int.le_refl _) (by show 0 + _ ≤ _; omega) (by show 0 + _ ≤ _; omega)]
      simp
    simp only [k1, Bool.true_eq_false, if_false, e, k7]
    rw [w64_id (n := (ps r w).2.2.2.2.1 - lentS w r.2.2.1) (by omega), w64_id (by omega)]
theorem page_all : ((List.range 100).all fun k => pgL 8 (pgStart ((k : Int) + 1)) == pgR ((k : Int) + 1) 100 1) = true := by decide +kernel
theorem page_c {c : Int} (h : isC c = true) : pgL 8 (pgStart c) = pgR c 100 1 := by
  simp only [isC, Bool.and_eq_true, decide_eq_true_eq] at h
  have := List.all_eq_true.1 page_all (c - 1).toNat (by simp; omega)
  have e : (((c - 1).toNat : Nat) : Int) + 1 = c := by omega
  rw [e] at this
  simpa using this
theorem page_eq {c : CS} {r : RC} (h : CR c r) (w : Int) : pagC c w = pagR r w := by
  obtain ⟨_, _, _, _, _, _, h7⟩ := h
  have h7 := h7 w
  unfold pagC pagR
  cases hp : per c.2.1 w with
  | none => rw [hp] at h7; simp only [h7, if_true]
  | some p =>
    rw [hp] at h7
    obtain ⟨k1, k2, k3, k4, _⟩ := h7
    simp only [k1, k2, Bool.true_eq_false, if_false]
    rcases k3 with k3 | k3 | k3
    · simp [k3]
    · obtain ⟨j1, j2, j3⟩ := k4 (by omega)
      simp [k3, j1, j2]
    · obtain ⟨j1, j2, j3⟩ := k4 (by omega)
      simp only [k3] at j1 ⊢
      simp [j1, j2, page_c j3]
theorem pg_len (c : CS) (w : Int) : (pagC c w).1.length ≤ 8 := by
  have key : ∀ k n, (pgL k n).length ≤ k := by
    intro k
    induction k with
    | zero => intro n; exact Nat.le_refl _
    | succ k ih =>
      intro n
      have := ih (w64 (n + 1))
      simp only [pgL]; split <;> simp; omega
  unfold pagC
  split
  · exact Nat.zero_le _
  · split
    · exact Nat.zero_le _
    · split
      · exact Nat.le_of_ble_eq_true rfl
      · exact key 8 _
end Go.Spec
