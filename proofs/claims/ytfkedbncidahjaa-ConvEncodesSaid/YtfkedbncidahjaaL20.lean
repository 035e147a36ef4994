/- Code, abstract: what must hold for what is to come, and that the machine comes to it. -/
import Derived.Test.YtfkedbncidahjaaL26
set_option linter.unusedVariables false
set_option linter.unusedSimpArgs false
namespace Go.Lift
open Go

def AExit.conv : AExit → Exit
  | .normal => .normal
  | .exit id => .exit id
  | .ret => .ret

structure condP (c : Bool) (p q : Prop) : Prop where
  t : c = true → p
  f : c = false → q
structure condQ (e neg : Bool) (p q : Prop) : Prop where
  t : ((true != neg) = true → e = true) → p
  f : ((false != neg) = true → e = true) → q
/-- What a run that cannot be told stops at (nothing holds there). -/
inductive BadRegion (E : Env) (ops : Array Oper) (draw : Bool) (st : St) : Prop
inductive BadCond (st : St) : Prop
inductive BadCode (c : Code) : Prop
inductive BadNorm (ts : List Tmp) (st : St) : Prop
inductive BadHead (b : Nat) (st : St) : Prop
inductive BadLoop (b : Nat) (st : St) (K : AExit → St → Prop) : Prop
inductive BadRound (b : Nat) (e : AExit) (st : St) : Prop
def andAll : List Prop → Prop → Prop
  | [], p => p
  | q :: qs, p => q ∧ andAll qs p
theorem andAll_spec : ∀ {l : List Prop} {p : Prop}, andAll l p → (∀ q ∈ l, q) ∧ p
  | [], _, h => ⟨by simp, h⟩
  | q :: l, p, h => by
    obtain ⟨h1, h2⟩ := andAll_spec h.2
    exact ⟨fun r hr => by rcases List.mem_cons.1 hr with hr | hr; exact hr ▸ h.1; exact h1 r hr, h2⟩

def runRegion (E : Env) (ops : Array Oper) (draw : Bool) (st : St) : Option (List Prop × St) :=
  if draw = true then runDraw E ops st
  else match runSeq E ops ops.toList st.next st with
    | some (vc, st') => if ops.size ≤ 64 then some (vc, bumpSt st st' 512) else none
    | none => none

def nrmAt (E : Env) (b : Nat) (st : St) : Option St := norm E.nio (E.head b).1 (ownNil (E.head b).2 st)
def aft (E : Env) (id : Nat) (K : AExit → St → Prop) (st : St) : Prop :=
  match E.after id with
  | some ts => match norm E.nio ts st with
    | some st => K .normal st
    | none => BadNorm ts st
  | none => K .normal st

def loopP (E : Env) (b : Nat) (K : AExit → St → Prop) (st : St) : Prop :=
  match nrmAt E b st with
  | some st0 => match E.loops b with
    | some L => L.enter st0 K
    | none => BadLoop b st0 K
  | none => BadHead b st
def awp (E : Env) : Code → Nat → (AExit → St → Prop) → St → Prop
  | .skip, _, K, st => K .normal st
  | .label _, _, K, st => K .normal st
  | .region _ ops draw, _, K, st => forceSt (cleanSt st) fun st => match runRegion E ops draw st with
    | some (vc, st') => andAll vc (K .normal st')
    | none => BadRegion E ops draw st
  | .seq x y, b, K, st => awp E x b (fun e st' => match e with
      | .normal => awp E y b K st'
      | .exit id => K (.exit id) st'
      | .ret => K .ret st') st
  | .cond c x y, b, K, st => match rawV st.tmps c with
    | some (vc, .val .bool v) => andAll vc (condP v (awp E x b K st) (awp E y b K st))
    | some (vc, .nilq e neg) => andAll vc (condQ e neg (awp E x b K st) (awp E y b K st))
    | _ => BadCond st
  | .block id c, _, K, st => awp E c id (fun e st' => match e with
      | .normal => aft E id K st'
      | .exit id' => if id' = id then aft E id K st' else K (.exit id') st'
      | .ret => K .ret st') st
  | .loop _, b, K, st => loopP E b K st
  | .exit id, _, K, st => K (.exit id) st
  | .ret, _, K, st => K .ret st
  | c, _, _, _ => BadCode c

/-- What a loop's telling stands on: one round. -/
def roundP (E : Env) (b : Nat) (L : Loop) (m : Nat) (K : AExit → St → Prop) (e : AExit) (st : St) : Prop :=
  match e with
  | .normal => match nrmAt E b st with
    | some st2 => L.again m st2 K
    | none => BadHead b st
  | e => match norm E.nio (E.leave b) st with
    | some st2 => K e st2
    | none => BadRound b e st
def LoopOK (E : Env) (b : Nat) (c : Code) (L : Loop) : Prop :=
  ∀ x y K, L.pre x y → L.out x y K → awp E c b (roundP E b L (L.m x y) K) (L.abs x y)
def loopList : Code → Nat → List (Nat × Code)
  | .seq x y, b => loopList x b ++ loopList y b
  | .cond _ x y, b => loopList x b ++ loopList y b
  | .block id c, _ => loopList c id
  | .loop c, b => (b, c) :: loopList c b
  | _, _ => []
def loopsAll (E : Env) : List (Nat × Code) → Prop
  | [] => True
  | (b, c) :: l => (match E.loops b with
    | some L => LoopOK E b c L
    | none => True) ∧ loopsAll E l
theorem loopsAll_append {E : Env} : ∀ {l l' : List (Nat × Code)}, loopsAll E (l ++ l') → loopsAll E l ∧ loopsAll E l'
  | [], _, h => ⟨trivial, h⟩
  | (_, _) :: l, l', h => by
    obtain ⟨h1, h2⟩ := h
    obtain ⟨h3, h4⟩ := loopsAll_append (l := l) h2
    exact ⟨⟨h1, h3⟩, h4⟩

def RelN (cx : Cx) (st : St) (a : Act) (w : World) : Prop := (∃ φ, RelF cx φ st a w) ∧ FreshFrom cx st st.next

theorem wp_loop_n {P : Program} {Q : Exit → Act → World → Prop} {c : Code} (I : Nat → Act → World → Prop) {a : Act} {w : World} {n : Nat} (h₀ : I n a w)
    (round : ∀ n a w, I n a w → c.wp P (Exit.then (fun a' w' => ∃ m, m < n ∧ I m a' w') Q) a w) : (Code.loop c).wp P Q a w := by
  intro b k cs
  have key : ∀ n a w, I n a w → ∃ e a' w', Q e a' w' ∧ Arrives P (lone (b.at a (.code c :: .inLoop c :: k)) cs w) b k cs e a' w' := by
    intro n
    induction n using Nat.strongRecOn with
    | _ n ih =>
      intro a w hI
      obtain ⟨e, a₁, w₁, hq, harr⟩ := round n a w hI b (.inLoop c :: k) cs
      cases e with
      | normal =>
        obtain ⟨m, hm, hI₁⟩ := hq
        obtain ⟨e₂, a₂, w₂, hq₂, harr₂⟩ := ih m hm a₁ w₁ hI₁
        exact ⟨e₂, a₂, w₂, hq₂, .of_steps (Steps.trans harr (.one step_inLoop)) harr₂⟩
      | exit id => exact ⟨_, a₁, w₁, hq, .pass (x := .inLoop c) rfl (fun _ _ => .inl (by simp)) harr⟩
      | goto l => exact ⟨_, a₁, w₁, hq, .pass (x := .inLoop c) rfl (fun _ _ => .inl (by simp)) harr⟩
      | ret => exact ⟨_, a₁, w₁, hq, .pass (x := .inLoop c) rfl (fun _ _ => .inl (by simp)) harr⟩
      | panic ch => exact ⟨_, a₁, w₁, hq, .pass (x := .inLoop c) rfl (fun _ _ => .inl (by simp)) harr⟩
      | outgrown => exact ⟨_, a₁, w₁, hq, .pass (x := .inLoop c) rfl (fun _ _ => .inl (by simp)) harr⟩
  obtain ⟨e, a', w', hq, harr⟩ := key n a w h₀
  exact ⟨e, a', w', hq, .of_steps (.one step_loop) harr⟩

theorem RelN.norm {cx : Cx} {st st' : St} {a : Act} {w : World} (R : RelN cx st a w) {nio : Nat} (hio : ∀ r l, (r, l) ∈ cx.io → r < nio) {ts : List Tmp} (h : norm nio ts st = some st') : RelN cx st' a w := by
  obtain ⟨⟨φ, R⟩, _⟩ := R
  exact norm_sound R hio h
theorem RelN.nrmAt {cx : Cx} {st st' : St} {a : Act} {w : World} (R : RelN cx st a w) {E : Env} (hio : ∀ r l, (r, l) ∈ cx.io → r < E.nio) {b : Nat} (h : nrmAt E b st = some st') : RelN cx st' a w := by
  obtain ⟨⟨φ, R⟩, hF⟩ := R
  obtain ⟨⟨φ', R'⟩, _⟩ := ownNil_sound (E.head b).2 R hF
  exact norm_sound R' hio h

theorem runRegion_sound {E : Env} (hE : EnvOK E) {cx : Cx} (hP : cx.P = E.P) {st st' : St} (hI : Inv st.tmps) {a : Act} {w : World} (R : RelN cx st a w) {id : Nat} {ops : Array Oper} {draw : Bool} {vc : List Prop}
    (h : runRegion E ops draw st = some (vc, st')) (hvc : ∀ p ∈ vc, p) {Q : Exit → Act → World → Prop} (hQ : ∀ a' w', RelN cx st' a' w' → Q .normal a' w') : (Code.region id ops draw).wp cx.P Q a w := by
  unfold runRegion at h
  split at h
  · rename_i hd
    subst hd
    obtain ⟨⟨φ, R⟩, hF⟩ := R
    refine wp_region_any (by rw [hP]; exact hE.2) ?_
    exact runDraw_sound hE hP hI (R.heap (w' := { w with drawn := w.drawn + 1 }) rfl rfl rfl rfl) hF h hvc (fun a' w' φ' R' hF' => hQ a' w' ⟨⟨φ', R'⟩, hF'⟩)
  · rename_i hd
    have hd' : draw = false := by simpa using hd
    subst hd'
    split at h
    · rename_i vc' st2 hr
      split at h
      case isFalse => cases h
      rename_i hsz
      cases h
      obtain ⟨⟨φ, R⟩, hF⟩ := R
      refine wp_region ?_
      have := runSeq_sound (Q := Q) hE hP ops.toList 0 st.next st st2 φ a w vc (fun i => by simp) (by simp) hI R hF hr hvc (fun a' w' φ' R' hF' => hQ a' w' ⟨⟨φ', ⟨R'.size, R'.df, R'.tm, R'.rg, R'.sep, R'.fr, R'.io, R'.kp, R'.hB, R'.bs⟩⟩, ?_⟩)
      · simpa [List.range_eq_range'] using this
      · intro m hm
        have hm' : st.next + 8 * ops.size ≤ m := by have h9 : st.next + 512 ≤ m := hm; omega
        exact hF' m (by simpa using hm')
    · cases h

theorem awp_sound {E : Env} (hE : EnvOK E) {cx : Cx} (hP : cx.P = E.P) (hio : ∀ r l, (r, l) ∈ cx.io → r < E.nio) : ∀ (c : Code) (b : Nat) (K : AExit → St → Prop) (st : St) (a : Act) (w : World) (Q : Exit → Act → World → Prop),
    loopsAll E (loopList c b) → awp E c b K st → RelN cx st a w → (∀ e st' a' w', K e st' → RelN cx st' a' w' → Q e.conv a' w') → c.wp cx.P Q a w := by
  intro c
  induction c with
  | skip => intro b K st a w Q hl h R hQ; exact wp_skip (hQ .normal st a w h R)
  | label l => intro b K st a w Q hl h R hQ; exact wp_label (hQ .normal st a w h R)
  | exit id => intro b K st a w Q hl h R hQ; exact wp_exit (hQ (.exit id) st a w h R)
  | ret => intro b K st a w Q hl h R hQ; exact wp_ret (hQ .ret st a w h R)
  | region id ops draw =>
    intro b K st a w Q hl h R hQ
    simp only [awp, forceSt_eq] at h
    split at h
    · rename_i vc st' hr
      obtain ⟨hvc, hK⟩ := andAll_spec h
      exact runRegion_sound hE hP (cleanSt_inv st) ⟨⟨R.1.choose, R.1.choose_spec.clean⟩, R.2.clean⟩ hr hvc (fun a' w' R' => hQ .normal st' a' w' hK R')
    · exact nomatch h
  | seq x y ihx ihy =>
    intro b K st a w Q hl h R hQ
    obtain ⟨hlx, hly⟩ := loopsAll_append hl
    refine wp_seq (ihx b _ st a w _ hlx h R (fun e st' a' w' hK R' => ?_))
    cases e with
    | normal => exact ihy b K st' a' w' Q hly hK R' hQ
    | exit id => exact hQ (.exit id) st' a' w' hK R'
    | ret => exact hQ .ret st' a' w' hK R'
  | cond c x y ihx ihy =>
    intro b K st a w Q hl h R hQ
    simp only [awp] at h
    split at h
    · rename_i vc v hr
      obtain ⟨hvc, hK⟩ := andAll_spec h
      obtain ⟨hlx, hly⟩ := loopsAll_append hl
      obtain ⟨⟨φ, R0⟩, hF⟩ := id R
      have hC := VRel.bool_eq (rawV_sound R0 hr hvc)
      refine wp_cond hC ?_
      cases hv : v with
      | true => rw [if_pos rfl]; exact ihx b K st a w Q hlx (hK.t hv) R hQ
      | false => rw [if_neg (by simp)]; exact ihy b K st a w Q hly (hK.f hv) R hQ
    · rename_i vc e neg hr
      obtain ⟨hvc, hK⟩ := andAll_spec h
      obtain ⟨hlx, hly⟩ := loopsAll_append hl
      obtain ⟨⟨φ, R0⟩, hF⟩ := id R
      obtain ⟨v, hC, hv⟩ := rawV_sound R0 hr hvc
      refine wp_cond hC ?_
      cases v with
      | true => rw [if_pos rfl]; exact ihx b K st a w Q hlx (hK.t hv) R hQ
      | false => rw [if_neg (by simp)]; exact ihy b K st a w Q hly (hK.f hv) R hQ
    · exact nomatch h
  | block id c ih =>
    intro b K st a w Q hl h R hQ
    have haft : ∀ st' a' w', aft E id K st' → RelN cx st' a' w' → Q .normal a' w' := by
      intro st' a' w' hK R'
      unfold aft at hK
      split at hK
      · split at hK
        · rename_i ts _ st2 hn
          exact hQ .normal st2 a' w' hK (R'.norm hio hn)
        · exact nomatch hK
      · exact hQ .normal st' a' w' hK R'
    refine wp_block (ih id _ st a w _ hl h R (fun e st' a' w' hK R' => ?_))
    cases e with
    | normal => exact haft st' a' w' hK R'
    | exit id' =>
      simp only [AExit.conv, Exit.inBlock]
      simp only at hK
      split
      · rename_i e; rw [if_pos e] at hK; exact haft st' a' w' hK R'
      · rename_i e; rw [if_neg e] at hK; exact hQ (.exit id') st' a' w' hK R'
    | ret => exact hQ .ret st' a' w' hK R'
  | loop c ih =>
    intro b K st a w Q hl h R hQ
    simp only [awp, loopP] at h
    split at h
    · rename_i st0 hn
      split at h
      · rename_i L hL
        obtain ⟨x0, y0, rfl, hp0, ho0⟩ := Loop.enter_spec h
        obtain ⟨hl1, hl2⟩ := hl
        rw [hL] at hl1
        refine wp_loop_n (fun n a w => ∃ x y, L.m x y = n ∧ L.pre x y ∧ L.out x y K ∧ RelN cx (L.abs x y) a w) ⟨x0, y0, rfl, hp0, ho0, R.nrmAt hio hn⟩ (fun n a w hI => ?_)
        obtain ⟨x, y, hm, hp, ho, R1⟩ := hI
        refine ih b _ (L.abs x y) a w _ hl2 (hl1 x y K hp ho) R1 (fun e st' a' w' hK R' => ?_)
        cases e with
        | normal =>
          simp only [roundP] at hK
          split at hK
          · rename_i st2 hn2
            obtain ⟨x2, y2, rfl, hp2, hm2, ho2⟩ := Loop.again_spec hK
            exact ⟨L.m x2 y2, hm ▸ hm2, x2, y2, rfl, hp2, ho2, R'.nrmAt hio hn2⟩
          · exact nomatch hK
        | exit id =>
          simp only [roundP] at hK
          split at hK
          · rename_i st2 hn2; exact hQ (.exit id) st2 a' w' hK (R'.norm hio hn2)
          · exact nomatch hK
        | ret =>
          simp only [roundP] at hK
          split at hK
          · rename_i st2 hn2; exact hQ .ret st2 a' w' hK (R'.norm hio hn2)
          · exact nomatch hK
      · exact nomatch h
    · exact nomatch h
  | rangeFunc => intro b K st a w Q hl h R hQ; exact nomatch h
  | scope => intro b K st a w Q hl h R hQ; exact nomatch h
  | goto => intro b K st a w Q hl h R hQ; exact nomatch h
  | refuse => intro b K st a w Q hl h R hQ; exact nomatch h

end Go.Lift
