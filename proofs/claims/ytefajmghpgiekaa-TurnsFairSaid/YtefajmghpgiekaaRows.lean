/-
  No cell of these rows narrows 'for every input' (looked for: loops, veiled, ifaces, maps, wideKeys, modest, calm, conditions, laid).
  DERIVED. THE GIVEN ROWS OF THIS SEAT. 10 by the template 'for every input the law returns true; each argument reads behind the call as it read before'; 0 by the template 'total and deterministic' (their statements: YtefajmghpgiekaaTotals.lean).
  GIVEN WITH THE SEED: the statements are not yours to turn. If you find one false, say at which input.
  Laid BY PROGRAM, IN A SANDBOX (cutbox-rows.mjs): the forced cells as the released guide's own fill.sh prints them over the translation 6b2f1b49fccfd0de… (all of the seat's roots in one cut). By AI agents, Wed Nov 11 2026. No macro, syntax, notation, axiom, sorry.
-/
import Derived.Test.YtefajmghpgiekaaChecked
import GoSem.Claim
import GoSem.ClaimJoined
import GoSem.ClaimMapViews
import Derived.JoinedTies
import Derived.KernelRfl
namespace Go.Proofs.Ytefajmghpgiekaa
/- THE CELL 'sum', in the pinned program and in every row, IS THE sha256 OF THE DUMP (.gsa) THAT YtefajmghpgiekaaProg.lean LOADS. Nothing in Lean hashes anything: it is a label: what it is worth is what the hold of that sum in a sandbox is worth. -/
noncomputable def Try.pinned : Pinned := { name := "ytefajmghpgiekaa", sum := "6b2f1b49fccfd0de7e65b9385674c13f55516097490bf6c095f28267851368f1", checked := Try.checked }
namespace Rows
def none {H : Type} : Left H := { results := [], args := [] }

/-- 'roamlaw.HarqSends': WHATEVER THE INPUT: true; the input reads as it did. -/
def harqSendsSpec : ChangeSpec := { name := "harqSends", fn := fun _ => fun
  | [d1, d2] => { results := [.lit (.bool true)], args := [d1, d2] }
  | _ => none }
def harqSendsRow : OpenClaim := { program := "ytefajmghpgiekaa", sum := "6b2f1b49fccfd0de7e65b9385674c13f55516097490bf6c095f28267851368f1", func := "roamwave/roamlaw.HarqSends", spec := "harqSends", apart := false }
def HarqSendsSaid : Prop := harqSendsRow.holds Try.pinned (OpenSpec.ofChange harqSendsSpec)

/-- ITS FALSE NEIGHBOUR: 'it returns false'. Refute it at one input. -/
def harqSendsWrong : ChangeSpec := { name := "harqSends", fn := fun _ => fun
  | [d1, d2] => { results := [.lit (.bool false)], args := [d1, d2] }
  | _ => none }
def HarqSendsWrongFalsely : Prop := harqSendsRow.holds Try.pinned (OpenSpec.ofChange harqSendsWrong)

/-- 'roamkeep.HarqOnce': WHATEVER THE INPUT: true; the input reads as it did. -/
def harqOnceSpec : ChangeSpec := { name := "harqOnce", fn := fun _ => fun
  | [d1, d2] => { results := [.lit (.bool true)], args := [d1, d2] }
  | _ => none }
def harqOnceRow : OpenClaim := { program := "ytefajmghpgiekaa", sum := "6b2f1b49fccfd0de7e65b9385674c13f55516097490bf6c095f28267851368f1", func := "roamwave/roamkeep.HarqOnce", spec := "harqOnce", apart := false }
def HarqOnceSaid : Prop := harqOnceRow.holds Try.pinned (OpenSpec.ofChange harqOnceSpec)

/-- ITS FALSE NEIGHBOUR: 'it returns false'. Refute it at one input. -/
def harqOnceWrong : ChangeSpec := { name := "harqOnce", fn := fun _ => fun
  | [d1, d2] => { results := [.lit (.bool false)], args := [d1, d2] }
  | _ => none }
def HarqOnceWrongFalsely : Prop := harqOnceRow.holds Try.pinned (OpenSpec.ofChange harqOnceWrong)

/-- 'roamlaw.TurnsSays': WHATEVER THE INPUT: true; the input reads as it did. -/
def turnsSaysSpec : ChangeSpec := { name := "turnsSays", fn := fun _ => fun
  | [d1, d2, d3] => { results := [.lit (.bool true)], args := [d1, d2, d3] }
  | _ => none }
def turnsSaysRow : OpenClaim := { program := "ytefajmghpgiekaa", sum := "6b2f1b49fccfd0de7e65b9385674c13f55516097490bf6c095f28267851368f1", func := "roamwave/roamlaw.TurnsSays", spec := "turnsSays", apart := false }
def TurnsSaysSaid : Prop := turnsSaysRow.holds Try.pinned (OpenSpec.ofChange turnsSaysSpec)

/-- ITS FALSE NEIGHBOUR: 'it returns false'. Refute it at one input. -/
def turnsSaysWrong : ChangeSpec := { name := "turnsSays", fn := fun _ => fun
  | [d1, d2, d3] => { results := [.lit (.bool false)], args := [d1, d2, d3] }
  | _ => none }
def TurnsSaysWrongFalsely : Prop := turnsSaysRow.holds Try.pinned (OpenSpec.ofChange turnsSaysWrong)

/-- 'roamkeep.TurnsFair': WHATEVER THE INPUT: true; the input reads as it did. -/
def turnsFairSpec : ChangeSpec := { name := "turnsFair", fn := fun _ => fun
  | [d1, d2, d3] => { results := [.lit (.bool true)], args := [d1, d2, d3] }
  | _ => none }
def turnsFairRow : OpenClaim := { program := "ytefajmghpgiekaa", sum := "6b2f1b49fccfd0de7e65b9385674c13f55516097490bf6c095f28267851368f1", func := "roamwave/roamkeep.TurnsFair", spec := "turnsFair", apart := false }
def TurnsFairSaid : Prop := turnsFairRow.holds Try.pinned (OpenSpec.ofChange turnsFairSpec)

/-- ITS FALSE NEIGHBOUR: 'it returns false'. Refute it at one input. -/
def turnsFairWrong : ChangeSpec := { name := "turnsFair", fn := fun _ => fun
  | [d1, d2, d3] => { results := [.lit (.bool false)], args := [d1, d2, d3] }
  | _ => none }
def TurnsFairWrongFalsely : Prop := turnsFairRow.holds Try.pinned (OpenSpec.ofChange turnsFairWrong)

/-- 'roamlaw.CorePlays': WHATEVER THE INPUT: true; the input reads as it did. -/
def corePlaysSpec : ChangeSpec := { name := "corePlays", fn := fun _ => fun
  | [d1, d2] => { results := [.lit (.bool true)], args := [d1, d2] }
  | _ => none }
def corePlaysRow : OpenClaim := { program := "ytefajmghpgiekaa", sum := "6b2f1b49fccfd0de7e65b9385674c13f55516097490bf6c095f28267851368f1", func := "roamwave/roamlaw.CorePlays", spec := "corePlays", unfollowed := true, recurses := true, apart := false }
def CorePlaysSaid : Prop := corePlaysRow.holds Try.pinned (OpenSpec.ofChange corePlaysSpec)

/-- ITS FALSE NEIGHBOUR: 'it returns false'. Refute it at one input. -/
def corePlaysWrong : ChangeSpec := { name := "corePlays", fn := fun _ => fun
  | [d1, d2] => { results := [.lit (.bool false)], args := [d1, d2] }
  | _ => none }
def CorePlaysWrongFalsely : Prop := corePlaysRow.holds Try.pinned (OpenSpec.ofChange corePlaysWrong)

/-- 'roamkeep.CoreKeeps': WHATEVER THE INPUT: true; the input reads as it did. -/
def coreKeepsSpec : ChangeSpec := { name := "coreKeeps", fn := fun _ => fun
  | [d1, d2, d3] => { results := [.lit (.bool true)], args := [d1, d2, d3] }
  | _ => none }
def coreKeepsRow : OpenClaim := { program := "ytefajmghpgiekaa", sum := "6b2f1b49fccfd0de7e65b9385674c13f55516097490bf6c095f28267851368f1", func := "roamwave/roamkeep.CoreKeeps", spec := "coreKeeps", unfollowed := true, recurses := true, apart := false }
def CoreKeepsSaid : Prop := coreKeepsRow.holds Try.pinned (OpenSpec.ofChange coreKeepsSpec)

/-- ITS FALSE NEIGHBOUR: 'it returns false'. Refute it at one input. -/
def coreKeepsWrong : ChangeSpec := { name := "coreKeeps", fn := fun _ => fun
  | [d1, d2, d3] => { results := [.lit (.bool false)], args := [d1, d2, d3] }
  | _ => none }
def CoreKeepsWrongFalsely : Prop := coreKeepsRow.holds Try.pinned (OpenSpec.ofChange coreKeepsWrong)

/-- 'roamlaw.RepeatPlays': WHATEVER THE INPUT: true; the input reads as it did. -/
def repeatPlaysSpec : ChangeSpec := { name := "repeatPlays", fn := fun _ => fun
  | [d1, d2] => { results := [.lit (.bool true)], args := [d1, d2] }
  | _ => none }
def repeatPlaysRow : OpenClaim := { program := "ytefajmghpgiekaa", sum := "6b2f1b49fccfd0de7e65b9385674c13f55516097490bf6c095f28267851368f1", func := "roamwave/roamlaw.RepeatPlays", spec := "repeatPlays", apart := false }
def RepeatPlaysSaid : Prop := repeatPlaysRow.holds Try.pinned (OpenSpec.ofChange repeatPlaysSpec)

/-- ITS FALSE NEIGHBOUR: 'it returns false'. Refute it at one input. -/
def repeatPlaysWrong : ChangeSpec := { name := "repeatPlays", fn := fun _ => fun
  | [d1, d2] => { results := [.lit (.bool false)], args := [d1, d2] }
  | _ => none }
def RepeatPlaysWrongFalsely : Prop := repeatPlaysRow.holds Try.pinned (OpenSpec.ofChange repeatPlaysWrong)

/-- 'roamkeep.RepeatOnce': WHATEVER THE INPUT: true; the input reads as it did. -/
def repeatOnceSpec : ChangeSpec := { name := "repeatOnce", fn := fun _ => fun
  | [d1, d2, d3] => { results := [.lit (.bool true)], args := [d1, d2, d3] }
  | _ => none }
def repeatOnceRow : OpenClaim := { program := "ytefajmghpgiekaa", sum := "6b2f1b49fccfd0de7e65b9385674c13f55516097490bf6c095f28267851368f1", func := "roamwave/roamkeep.RepeatOnce", spec := "repeatOnce", unfollowed := true, recurses := true, apart := false }
def RepeatOnceSaid : Prop := repeatOnceRow.holds Try.pinned (OpenSpec.ofChange repeatOnceSpec)

/-- ITS FALSE NEIGHBOUR: 'it returns false'. Refute it at one input. -/
def repeatOnceWrong : ChangeSpec := { name := "repeatOnce", fn := fun _ => fun
  | [d1, d2, d3] => { results := [.lit (.bool false)], args := [d1, d2, d3] }
  | _ => none }
def RepeatOnceWrongFalsely : Prop := repeatOnceRow.holds Try.pinned (OpenSpec.ofChange repeatOnceWrong)

/-- 'roamlaw.MacShares': WHATEVER THE INPUT: true; the input reads as it did. -/
def macSharesSpec : ChangeSpec := { name := "macShares", fn := fun _ => fun
  | [d1, d2, d3] => { results := [.lit (.bool true)], args := [d1, d2, d3] }
  | _ => none }
def macSharesRow : OpenClaim := { program := "ytefajmghpgiekaa", sum := "6b2f1b49fccfd0de7e65b9385674c13f55516097490bf6c095f28267851368f1", func := "roamwave/roamlaw.MacShares", spec := "macShares", unfollowed := true, recurses := true, apart := false }
def MacSharesSaid : Prop := macSharesRow.holds Try.pinned (OpenSpec.ofChange macSharesSpec)

/-- ITS FALSE NEIGHBOUR: 'it returns false'. Refute it at one input. -/
def macSharesWrong : ChangeSpec := { name := "macShares", fn := fun _ => fun
  | [d1, d2, d3] => { results := [.lit (.bool false)], args := [d1, d2, d3] }
  | _ => none }
def MacSharesWrongFalsely : Prop := macSharesRow.holds Try.pinned (OpenSpec.ofChange macSharesWrong)

/-- 'roamkeep.LinkBack': WHATEVER THE INPUT: true; the input reads as it did. -/
def linkBackSpec : ChangeSpec := { name := "linkBack", fn := fun _ => fun
  | [d1, d2, d3] => { results := [.lit (.bool true)], args := [d1, d2, d3] }
  | _ => none }
def linkBackRow : OpenClaim := { program := "ytefajmghpgiekaa", sum := "6b2f1b49fccfd0de7e65b9385674c13f55516097490bf6c095f28267851368f1", func := "roamwave/roamkeep.LinkBack", spec := "linkBack", unfollowed := true, recurses := true, apart := false }
def LinkBackSaid : Prop := linkBackRow.holds Try.pinned (OpenSpec.ofChange linkBackSpec)

/-- ITS FALSE NEIGHBOUR: 'it returns false'. Refute it at one input. -/
def linkBackWrong : ChangeSpec := { name := "linkBack", fn := fun _ => fun
  | [d1, d2, d3] => { results := [.lit (.bool false)], args := [d1, d2, d3] }
  | _ => none }
def LinkBackWrongFalsely : Prop := linkBackRow.holds Try.pinned (OpenSpec.ofChange linkBackWrong)

/- THE SECOND FORM. 'bulk': how many values and letters a reading holds, each counted each time it is reached (what is shared counts as often as it is met; a slice's spare places count too). A statement '..UptoSaid' is the law's where the arguments, and the package variables that the reading takes, are together of bulk at most 1048576: NARROWER than '..Said'. Prove '..Said' where nothing that the law and all that it calls make is longer than what came in: it says more and counts as full. Else prove '..UptoSaid'. A law counts once. -/
mutual
def uptoBulk {H : Type} : DataW H → Nat
  | .lit (.string bytes) => bytes.length + 1
  | .lit _ => 1
  | .nil => 1
  | .ptr d => uptoBulk d + 1
  | .slice elems spare => uptoBulkAll elems + uptoBulkAll spare + 1
  | .agg parts => uptoBulkAll parts + 1
  | .iface _ d => uptoBulk d + 1
  | .map entries => uptoBulkEntries entries + 1
  | .held _ => 1
def uptoBulkAll {H : Type} : List (DataW H) → Nat
  | [] => 0
  | d :: r => uptoBulk d + uptoBulkAll r
def uptoBulkEntries {H : Type} : List (Lit × DataW H) → Nat
  | [] => 0
  | x :: r => uptoBulkEntry x + uptoBulkEntries r
def uptoBulkEntry {H : Type} : Lit × DataW H → Nat
  | (.string bytes, d) => bytes.length + uptoBulk d + 1
  | (_, d) => uptoBulk d + 1
 end
def uptoSmall : (H : Type) → List (DataW H) → Bool := fun _ ds => decide (uptoBulkAll ds ≤ 1048576)
def OpenSpec.upto (s : _root_.Go.ChangeSpec) : _root_.Go.OpenSpec := { _root_.Go.OpenSpec.ofChange s with cond := some uptoSmall }

/-- 'roamlaw.HarqSends', WHERE WHAT IT READS IS OF BULK AT MOST 1048576: true; the input reads as it did. -/
def harqSendsUptoRow : OpenClaim := { program := "ytefajmghpgiekaa", sum := "6b2f1b49fccfd0de7e65b9385674c13f55516097490bf6c095f28267851368f1", func := "roamwave/roamlaw.HarqSends", spec := "harqSends", apart := false, narrowed := true }
def HarqSendsUptoSaid : Prop := harqSendsUptoRow.holds Try.pinned (OpenSpec.upto harqSendsSpec)

/-- 'roamkeep.HarqOnce', WHERE WHAT IT READS IS OF BULK AT MOST 1048576: true; the input reads as it did. -/
def harqOnceUptoRow : OpenClaim := { program := "ytefajmghpgiekaa", sum := "6b2f1b49fccfd0de7e65b9385674c13f55516097490bf6c095f28267851368f1", func := "roamwave/roamkeep.HarqOnce", spec := "harqOnce", apart := false, narrowed := true }
def HarqOnceUptoSaid : Prop := harqOnceUptoRow.holds Try.pinned (OpenSpec.upto harqOnceSpec)

/-- 'roamlaw.TurnsSays', WHERE WHAT IT READS IS OF BULK AT MOST 1048576: true; the input reads as it did. -/
def turnsSaysUptoRow : OpenClaim := { program := "ytefajmghpgiekaa", sum := "6b2f1b49fccfd0de7e65b9385674c13f55516097490bf6c095f28267851368f1", func := "roamwave/roamlaw.TurnsSays", spec := "turnsSays", apart := false, narrowed := true }
def TurnsSaysUptoSaid : Prop := turnsSaysUptoRow.holds Try.pinned (OpenSpec.upto turnsSaysSpec)

/-- 'roamkeep.TurnsFair', WHERE WHAT IT READS IS OF BULK AT MOST 1048576: true; the input reads as it did. -/
def turnsFairUptoRow : OpenClaim := { program := "ytefajmghpgiekaa", sum := "6b2f1b49fccfd0de7e65b9385674c13f55516097490bf6c095f28267851368f1", func := "roamwave/roamkeep.TurnsFair", spec := "turnsFair", apart := false, narrowed := true }
def TurnsFairUptoSaid : Prop := turnsFairUptoRow.holds Try.pinned (OpenSpec.upto turnsFairSpec)

/-- 'roamlaw.CorePlays', WHERE WHAT IT READS IS OF BULK AT MOST 1048576: true; the input reads as it did. -/
def corePlaysUptoRow : OpenClaim := { program := "ytefajmghpgiekaa", sum := "6b2f1b49fccfd0de7e65b9385674c13f55516097490bf6c095f28267851368f1", func := "roamwave/roamlaw.CorePlays", spec := "corePlays", unfollowed := true, recurses := true, apart := false, narrowed := true }
def CorePlaysUptoSaid : Prop := corePlaysUptoRow.holds Try.pinned (OpenSpec.upto corePlaysSpec)

/-- 'roamkeep.CoreKeeps', WHERE WHAT IT READS IS OF BULK AT MOST 1048576: true; the input reads as it did. -/
def coreKeepsUptoRow : OpenClaim := { program := "ytefajmghpgiekaa", sum := "6b2f1b49fccfd0de7e65b9385674c13f55516097490bf6c095f28267851368f1", func := "roamwave/roamkeep.CoreKeeps", spec := "coreKeeps", unfollowed := true, recurses := true, apart := false, narrowed := true }
def CoreKeepsUptoSaid : Prop := coreKeepsUptoRow.holds Try.pinned (OpenSpec.upto coreKeepsSpec)

/-- 'roamlaw.RepeatPlays', WHERE WHAT IT READS IS OF BULK AT MOST 1048576: true; the input reads as it did. -/
def repeatPlaysUptoRow : OpenClaim := { program := "ytefajmghpgiekaa", sum := "6b2f1b49fccfd0de7e65b9385674c13f55516097490bf6c095f28267851368f1", func := "roamwave/roamlaw.RepeatPlays", spec := "repeatPlays", apart := false, narrowed := true }
def RepeatPlaysUptoSaid : Prop := repeatPlaysUptoRow.holds Try.pinned (OpenSpec.upto repeatPlaysSpec)

/-- 'roamkeep.RepeatOnce', WHERE WHAT IT READS IS OF BULK AT MOST 1048576: true; the input reads as it did. -/
def repeatOnceUptoRow : OpenClaim := { program := "ytefajmghpgiekaa", sum := "6b2f1b49fccfd0de7e65b9385674c13f55516097490bf6c095f28267851368f1", func := "roamwave/roamkeep.RepeatOnce", spec := "repeatOnce", unfollowed := true, recurses := true, apart := false, narrowed := true }
def RepeatOnceUptoSaid : Prop := repeatOnceUptoRow.holds Try.pinned (OpenSpec.upto repeatOnceSpec)

/-- 'roamlaw.MacShares', WHERE WHAT IT READS IS OF BULK AT MOST 1048576: true; the input reads as it did. -/
def macSharesUptoRow : OpenClaim := { program := "ytefajmghpgiekaa", sum := "6b2f1b49fccfd0de7e65b9385674c13f55516097490bf6c095f28267851368f1", func := "roamwave/roamlaw.MacShares", spec := "macShares", unfollowed := true, recurses := true, apart := false, narrowed := true }
def MacSharesUptoSaid : Prop := macSharesUptoRow.holds Try.pinned (OpenSpec.upto macSharesSpec)

/-- 'roamkeep.LinkBack', WHERE WHAT IT READS IS OF BULK AT MOST 1048576: true; the input reads as it did. -/
def linkBackUptoRow : OpenClaim := { program := "ytefajmghpgiekaa", sum := "6b2f1b49fccfd0de7e65b9385674c13f55516097490bf6c095f28267851368f1", func := "roamwave/roamkeep.LinkBack", spec := "linkBack", unfollowed := true, recurses := true, apart := false, narrowed := true }
def LinkBackUptoSaid : Prop := linkBackUptoRow.holds Try.pinned (OpenSpec.upto linkBackSpec)

end Rows
end Go.Proofs.Ytefajmghpgiekaa
