/-
  No cell of these rows narrows 'for every input' (looked for: loops, veiled, ifaces, maps, wideKeys, modest, calm, conditions, laid).
  DERIVED. THE GIVEN ROWS OF THIS SEAT. 12 by the template 'for every input the law returns true; each argument reads behind the call as it read before'; 0 by the template 'total and deterministic' (their statements: YtppemehkbnbjlaaTotals.lean).
  GIVEN WITH THE SEED: the statements are not yours to turn. If you find one false, say at which input.
  Laid BY PROGRAM, IN A SANDBOX (cutbox-rows.mjs): the forced cells as the released guide's own fill.sh prints them over the translation 2588b1528789198d… (all of the seat's roots in one cut). By AI agents, Wed Nov 11 2026. No macro, syntax, notation, axiom, sorry.
-/
import Derived.Test.YtppemehkbnbjlaaChecked
import GoSem.Claim
import GoSem.ClaimJoined
import GoSem.ClaimMapViews
import Derived.JoinedTies
import Derived.KernelRfl
namespace Go.Proofs.Ytppemehkbnbjlaa
/- THE CELL 'sum', in the pinned program and in every row, IS THE sha256 OF THE DUMP (.gsa) THAT YtppemehkbnbjlaaProg.lean LOADS. Nothing in Lean hashes anything: it is a label: what it is worth is what the hold of that sum in a sandbox is worth. -/
noncomputable def Try.pinned : Pinned := { name := "ytppemehkbnbjlaa", sum := "2588b1528789198d17afc9c128e15a5a4b01ad4341feae654b804358c3537a55", checked := Try.checked }
namespace Rows
def none {H : Type} : Left H := { results := [], args := [] }

/-- 'roamlaw.MatchPicks': WHATEVER THE INPUT: true; the input reads as it did. -/
def matchPicksSpec : ChangeSpec := { name := "matchPicks", fn := fun _ => fun
  | [d1, d2, d3, d4] => { results := [.lit (.bool true)], args := [d1, d2, d3, d4] }
  | _ => none }
def matchPicksRow : OpenClaim := { program := "ytppemehkbnbjlaa", sum := "2588b1528789198d17afc9c128e15a5a4b01ad4341feae654b804358c3537a55", func := "roamwave/roamlaw.MatchPicks", spec := "matchPicks", unfollowed := true, recurses := true, plainKeys := false, apart := false }
def MatchPicksSaid : Prop := matchPicksRow.holds Try.pinned (OpenSpec.ofChange matchPicksSpec)

/-- ITS FALSE NEIGHBOUR: 'it returns false'. Refute it at one input. -/
def matchPicksWrong : ChangeSpec := { name := "matchPicks", fn := fun _ => fun
  | [d1, d2, d3, d4] => { results := [.lit (.bool false)], args := [d1, d2, d3, d4] }
  | _ => none }
def MatchPicksWrongFalsely : Prop := matchPicksRow.holds Try.pinned (OpenSpec.ofChange matchPicksWrong)

/-- 'roamlaw.MatchGathers': WHATEVER THE INPUT: true; the input reads as it did. -/
def matchGathersSpec : ChangeSpec := { name := "matchGathers", fn := fun _ => fun
  | [d1, d2] => { results := [.lit (.bool true)], args := [d1, d2] }
  | _ => none }
def matchGathersRow : OpenClaim := { program := "ytppemehkbnbjlaa", sum := "2588b1528789198d17afc9c128e15a5a4b01ad4341feae654b804358c3537a55", func := "roamwave/roamlaw.MatchGathers", spec := "matchGathers", unfollowed := true, recurses := true, plainKeys := false, apart := false }
def MatchGathersSaid : Prop := matchGathersRow.holds Try.pinned (OpenSpec.ofChange matchGathersSpec)

/-- ITS FALSE NEIGHBOUR: 'it returns false'. Refute it at one input. -/
def matchGathersWrong : ChangeSpec := { name := "matchGathers", fn := fun _ => fun
  | [d1, d2] => { results := [.lit (.bool false)], args := [d1, d2] }
  | _ => none }
def MatchGathersWrongFalsely : Prop := matchGathersRow.holds Try.pinned (OpenSpec.ofChange matchGathersWrong)

/-- 'roamkeep.MatchAll': WHATEVER THE INPUT: true; the input reads as it did. -/
def matchAllSpec : ChangeSpec := { name := "matchAll", fn := fun _ => fun
  | [d1, d2, d3] => { results := [.lit (.bool true)], args := [d1, d2, d3] }
  | _ => none }
def matchAllRow : OpenClaim := { program := "ytppemehkbnbjlaa", sum := "2588b1528789198d17afc9c128e15a5a4b01ad4341feae654b804358c3537a55", func := "roamwave/roamkeep.MatchAll", spec := "matchAll", unfollowed := true, recurses := true, plainKeys := false, apart := false }
def MatchAllSaid : Prop := matchAllRow.holds Try.pinned (OpenSpec.ofChange matchAllSpec)

/-- ITS FALSE NEIGHBOUR: 'it returns false'. Refute it at one input. -/
def matchAllWrong : ChangeSpec := { name := "matchAll", fn := fun _ => fun
  | [d1, d2, d3] => { results := [.lit (.bool false)], args := [d1, d2, d3] }
  | _ => none }
def MatchAllWrongFalsely : Prop := matchAllRow.holds Try.pinned (OpenSpec.ofChange matchAllWrong)

/-- 'roamlaw.GridSays': WHATEVER THE INPUT: true; the input reads as it did. -/
def gridSaysSpec : ChangeSpec := { name := "gridSays", fn := fun _ => fun
  | [d1, d2, d3, d4] => { results := [.lit (.bool true)], args := [d1, d2, d3, d4] }
  | _ => none }
def gridSaysRow : OpenClaim := { program := "ytppemehkbnbjlaa", sum := "2588b1528789198d17afc9c128e15a5a4b01ad4341feae654b804358c3537a55", func := "roamwave/roamlaw.GridSays", spec := "gridSays", unfollowed := true, recurses := true, plainKeys := false, apart := false }
def GridSaysSaid : Prop := gridSaysRow.holds Try.pinned (OpenSpec.ofChange gridSaysSpec)

/-- ITS FALSE NEIGHBOUR: 'it returns false'. Refute it at one input. -/
def gridSaysWrong : ChangeSpec := { name := "gridSays", fn := fun _ => fun
  | [d1, d2, d3, d4] => { results := [.lit (.bool false)], args := [d1, d2, d3, d4] }
  | _ => none }
def GridSaysWrongFalsely : Prop := gridSaysRow.holds Try.pinned (OpenSpec.ofChange gridSaysWrong)

/-- 'roamkeep.GridOnce': WHATEVER THE INPUT: true; the input reads as it did. -/
def gridOnceSpec : ChangeSpec := { name := "gridOnce", fn := fun _ => fun
  | [d1, d2] => { results := [.lit (.bool true)], args := [d1, d2] }
  | _ => none }
def gridOnceRow : OpenClaim := { program := "ytppemehkbnbjlaa", sum := "2588b1528789198d17afc9c128e15a5a4b01ad4341feae654b804358c3537a55", func := "roamwave/roamkeep.GridOnce", spec := "gridOnce", unfollowed := true, recurses := true, plainKeys := false, apart := false }
def GridOnceSaid : Prop := gridOnceRow.holds Try.pinned (OpenSpec.ofChange gridOnceSpec)

/-- ITS FALSE NEIGHBOUR: 'it returns false'. Refute it at one input. -/
def gridOnceWrong : ChangeSpec := { name := "gridOnce", fn := fun _ => fun
  | [d1, d2] => { results := [.lit (.bool false)], args := [d1, d2] }
  | _ => none }
def GridOnceWrongFalsely : Prop := gridOnceRow.holds Try.pinned (OpenSpec.ofChange gridOnceWrong)

/-- 'roamkeep.GridMemory': WHATEVER THE INPUT: true; the input reads as it did. -/
def gridMemorySpec : ChangeSpec := { name := "gridMemory", fn := fun _ => fun
  | [d1, d2] => { results := [.lit (.bool true)], args := [d1, d2] }
  | _ => none }
def gridMemoryRow : OpenClaim := { program := "ytppemehkbnbjlaa", sum := "2588b1528789198d17afc9c128e15a5a4b01ad4341feae654b804358c3537a55", func := "roamwave/roamkeep.GridMemory", spec := "gridMemory", unfollowed := true, recurses := true, plainKeys := false, apart := false }
def GridMemorySaid : Prop := gridMemoryRow.holds Try.pinned (OpenSpec.ofChange gridMemorySpec)

/-- ITS FALSE NEIGHBOUR: 'it returns false'. Refute it at one input. -/
def gridMemoryWrong : ChangeSpec := { name := "gridMemory", fn := fun _ => fun
  | [d1, d2] => { results := [.lit (.bool false)], args := [d1, d2] }
  | _ => none }
def GridMemoryWrongFalsely : Prop := gridMemoryRow.holds Try.pinned (OpenSpec.ofChange gridMemoryWrong)

/-- 'roamlaw.HarqSends': WHATEVER THE INPUT: true; the input reads as it did. -/
def harqSendsSpec : ChangeSpec := { name := "harqSends", fn := fun _ => fun
  | [d1, d2] => { results := [.lit (.bool true)], args := [d1, d2] }
  | _ => none }
def harqSendsRow : OpenClaim := { program := "ytppemehkbnbjlaa", sum := "2588b1528789198d17afc9c128e15a5a4b01ad4341feae654b804358c3537a55", func := "roamwave/roamlaw.HarqSends", spec := "harqSends", plainKeys := false, apart := false }
def HarqSendsSaid : Prop := harqSendsRow.holds Try.pinned (OpenSpec.ofChange harqSendsSpec)

/-- ITS FALSE NEIGHBOUR: 'it returns false'. Refute it at one input. -/
def harqSendsWrong : ChangeSpec := { name := "harqSends", fn := fun _ => fun
  | [d1, d2] => { results := [.lit (.bool false)], args := [d1, d2] }
  | _ => none }
def HarqSendsWrongFalsely : Prop := harqSendsRow.holds Try.pinned (OpenSpec.ofChange harqSendsWrong)

/-- 'roamkeep.HarqOnce': WHATEVER THE INPUT: true; the input reads as it did. -/
def harqOnceSpec : ChangeSpec := { name := "harqOnce", fn := fun _ => fun
  | [d1, d2] => { results := [.lit (.bool true)], args := [d1, d2] }
  | _ => none }
def harqOnceRow : OpenClaim := { program := "ytppemehkbnbjlaa", sum := "2588b1528789198d17afc9c128e15a5a4b01ad4341feae654b804358c3537a55", func := "roamwave/roamkeep.HarqOnce", spec := "harqOnce", plainKeys := false, apart := false }
def HarqOnceSaid : Prop := harqOnceRow.holds Try.pinned (OpenSpec.ofChange harqOnceSpec)

/-- ITS FALSE NEIGHBOUR: 'it returns false'. Refute it at one input. -/
def harqOnceWrong : ChangeSpec := { name := "harqOnce", fn := fun _ => fun
  | [d1, d2] => { results := [.lit (.bool false)], args := [d1, d2] }
  | _ => none }
def HarqOnceWrongFalsely : Prop := harqOnceRow.holds Try.pinned (OpenSpec.ofChange harqOnceWrong)

/-- 'roamlaw.CorePlays': WHATEVER THE INPUT: true; the input reads as it did. -/
def corePlaysSpec : ChangeSpec := { name := "corePlays", fn := fun _ => fun
  | [d1, d2] => { results := [.lit (.bool true)], args := [d1, d2] }
  | _ => none }
def corePlaysRow : OpenClaim := { program := "ytppemehkbnbjlaa", sum := "2588b1528789198d17afc9c128e15a5a4b01ad4341feae654b804358c3537a55", func := "roamwave/roamlaw.CorePlays", spec := "corePlays", unfollowed := true, recurses := true, plainKeys := false, apart := false }
def CorePlaysSaid : Prop := corePlaysRow.holds Try.pinned (OpenSpec.ofChange corePlaysSpec)

/-- ITS FALSE NEIGHBOUR: 'it returns false'. Refute it at one input. -/
def corePlaysWrong : ChangeSpec := { name := "corePlays", fn := fun _ => fun
  | [d1, d2] => { results := [.lit (.bool false)], args := [d1, d2] }
  | _ => none }
def CorePlaysWrongFalsely : Prop := corePlaysRow.holds Try.pinned (OpenSpec.ofChange corePlaysWrong)

/-- 'roamkeep.CoreKeeps': WHATEVER THE INPUT: true; the input reads as it did. -/
def coreKeepsSpec : ChangeSpec := { name := "coreKeeps", fn := fun _ => fun
  | [d1, d2, d3] => { results := [.lit (.bool true)], args := [d1, d2, d3] }
  | _ => none }
def coreKeepsRow : OpenClaim := { program := "ytppemehkbnbjlaa", sum := "2588b1528789198d17afc9c128e15a5a4b01ad4341feae654b804358c3537a55", func := "roamwave/roamkeep.CoreKeeps", spec := "coreKeeps", unfollowed := true, recurses := true, plainKeys := false, apart := false }
def CoreKeepsSaid : Prop := coreKeepsRow.holds Try.pinned (OpenSpec.ofChange coreKeepsSpec)

/-- ITS FALSE NEIGHBOUR: 'it returns false'. Refute it at one input. -/
def coreKeepsWrong : ChangeSpec := { name := "coreKeeps", fn := fun _ => fun
  | [d1, d2, d3] => { results := [.lit (.bool false)], args := [d1, d2, d3] }
  | _ => none }
def CoreKeepsWrongFalsely : Prop := coreKeepsRow.holds Try.pinned (OpenSpec.ofChange coreKeepsWrong)

/-- 'roamlaw.RepeatPlays': WHATEVER THE INPUT: true; the input reads as it did. -/
def repeatPlaysSpec : ChangeSpec := { name := "repeatPlays", fn := fun _ => fun
  | [d1, d2] => { results := [.lit (.bool true)], args := [d1, d2] }
  | _ => none }
def repeatPlaysRow : OpenClaim := { program := "ytppemehkbnbjlaa", sum := "2588b1528789198d17afc9c128e15a5a4b01ad4341feae654b804358c3537a55", func := "roamwave/roamlaw.RepeatPlays", spec := "repeatPlays", plainKeys := false, apart := false }
def RepeatPlaysSaid : Prop := repeatPlaysRow.holds Try.pinned (OpenSpec.ofChange repeatPlaysSpec)

/-- ITS FALSE NEIGHBOUR: 'it returns false'. Refute it at one input. -/
def repeatPlaysWrong : ChangeSpec := { name := "repeatPlays", fn := fun _ => fun
  | [d1, d2] => { results := [.lit (.bool false)], args := [d1, d2] }
  | _ => none }
def RepeatPlaysWrongFalsely : Prop := repeatPlaysRow.holds Try.pinned (OpenSpec.ofChange repeatPlaysWrong)

/-- 'roamkeep.RepeatOnce': WHATEVER THE INPUT: true; the input reads as it did. -/
def repeatOnceSpec : ChangeSpec := { name := "repeatOnce", fn := fun _ => fun
  | [d1, d2, d3] => { results := [.lit (.bool true)], args := [d1, d2, d3] }
  | _ => none }
def repeatOnceRow : OpenClaim := { program := "ytppemehkbnbjlaa", sum := "2588b1528789198d17afc9c128e15a5a4b01ad4341feae654b804358c3537a55", func := "roamwave/roamkeep.RepeatOnce", spec := "repeatOnce", unfollowed := true, recurses := true, plainKeys := false, apart := false }
def RepeatOnceSaid : Prop := repeatOnceRow.holds Try.pinned (OpenSpec.ofChange repeatOnceSpec)

/-- ITS FALSE NEIGHBOUR: 'it returns false'. Refute it at one input. -/
def repeatOnceWrong : ChangeSpec := { name := "repeatOnce", fn := fun _ => fun
  | [d1, d2, d3] => { results := [.lit (.bool false)], args := [d1, d2, d3] }
  | _ => none }
def RepeatOnceWrongFalsely : Prop := repeatOnceRow.holds Try.pinned (OpenSpec.ofChange repeatOnceWrong)

/- THE SECOND FORM. 'bulk': how many values and letters a reading holds, each counted each time it is reached (what is shared counts as often as it is met; a slice's spare places count too). A statement '..UptoSaid' is the law's where the arguments, and the package variables that the reading takes, are together of bulk at most 1048576: NARROWER than '..Said'. Prove '..Said' where nothing that the law and all that it calls make is longer than what came in: it says more and counts as full. Else prove '..UptoSaid'. A law counts once. -/
mutual
def uptoBulk {H : Type} : DataW H → Nat
  | .lit (.string bytes) => bytes.length + 1
  | .lit _ => 1
  | .nil => 1
  | .ptr d => uptoBulk d + 1
  | .slice elems spare => uptoBulkAll elems + uptoBulkAll spare + 1
  | .agg parts => uptoBulkAll parts + 1
  | .iface _ d => uptoBulk d + 1
  | .map entries => uptoBulkEntries entries + 1
  | .held _ => 1
def uptoBulkAll {H : Type} : List (DataW H) → Nat
  | [] => 0
  | d :: r => uptoBulk d + uptoBulkAll r
def uptoBulkEntries {H : Type} : List (Lit × DataW H) → Nat
  | [] => 0
  | x :: r => uptoBulkEntry x + uptoBulkEntries r
def uptoBulkEntry {H : Type} : Lit × DataW H → Nat
  | (.string bytes, d) => bytes.length + uptoBulk d + 1
  | (_, d) => uptoBulk d + 1
 end
def uptoSmall : (H : Type) → List (DataW H) → Bool := fun _ ds => decide (uptoBulkAll ds ≤ 1048576)
def OpenSpec.upto (s : _root_.Go.ChangeSpec) : _root_.Go.OpenSpec := { _root_.Go.OpenSpec.ofChange s with cond := some uptoSmall }

/-- 'roamlaw.MatchPicks', WHERE WHAT IT READS IS OF BULK AT MOST 1048576: true; the input reads as it did. -/
def matchPicksUptoRow : OpenClaim := { program := "ytppemehkbnbjlaa", sum := "2588b1528789198d17afc9c128e15a5a4b01ad4341feae654b804358c3537a55", func := "roamwave/roamlaw.MatchPicks", spec := "matchPicks", unfollowed := true, recurses := true, plainKeys := false, apart := false, narrowed := true }
def MatchPicksUptoSaid : Prop := matchPicksUptoRow.holds Try.pinned (OpenSpec.upto matchPicksSpec)

/-- 'roamlaw.MatchGathers', WHERE WHAT IT READS IS OF BULK AT MOST 1048576: true; the input reads as it did. -/
def matchGathersUptoRow : OpenClaim := { program := "ytppemehkbnbjlaa", sum := "2588b1528789198d17afc9c128e15a5a4b01ad4341feae654b804358c3537a55", func := "roamwave/roamlaw.MatchGathers", spec := "matchGathers", unfollowed := true, recurses := true, plainKeys := false, apart := false, narrowed := true }
def MatchGathersUptoSaid : Prop := matchGathersUptoRow.holds Try.pinned (OpenSpec.upto matchGathersSpec)

/-- 'roamkeep.MatchAll', WHERE WHAT IT READS IS OF BULK AT MOST 1048576: true; the input reads as it did. -/
def matchAllUptoRow : OpenClaim := { program := "ytppemehkbnbjlaa", sum := "2588b1528789198d17afc9c128e15a5a4b01ad4341feae654b804358c3537a55", func := "roamwave/roamkeep.MatchAll", spec := "matchAll", unfollowed := true, recurses := true, plainKeys := false, apart := false, narrowed := true }
def MatchAllUptoSaid : Prop := matchAllUptoRow.holds Try.pinned (OpenSpec.upto matchAllSpec)

/-- 'roamlaw.GridSays', WHERE WHAT IT READS IS OF BULK AT MOST 1048576: true; the input reads as it did. -/
def gridSaysUptoRow : OpenClaim := { program := "ytppemehkbnbjlaa", sum := "2588b1528789198d17afc9c128e15a5a4b01ad4341feae654b804358c3537a55", func := "roamwave/roamlaw.GridSays", spec := "gridSays", unfollowed := true, recurses := true, plainKeys := false, apart := false, narrowed := true }
def GridSaysUptoSaid : Prop := gridSaysUptoRow.holds Try.pinned (OpenSpec.upto gridSaysSpec)

/-- 'roamkeep.GridOnce', WHERE WHAT IT READS IS OF BULK AT MOST 1048576: true; the input reads as it did. -/
def gridOnceUptoRow : OpenClaim := { program := "ytppemehkbnbjlaa", sum := "2588b1528789198d17afc9c128e15a5a4b01ad4341feae654b804358c3537a55", func := "roamwave/roamkeep.GridOnce", spec := "gridOnce", unfollowed := true, recurses := true, plainKeys := false, apart := false, narrowed := true }
def GridOnceUptoSaid : Prop := gridOnceUptoRow.holds Try.pinned (OpenSpec.upto gridOnceSpec)

/-- 'roamkeep.GridMemory', WHERE WHAT IT READS IS OF BULK AT MOST 1048576: true; the input reads as it did. -/
def gridMemoryUptoRow : OpenClaim := { program := "ytppemehkbnbjlaa", sum := "2588b1528789198d17afc9c128e15a5a4b01ad4341feae654b804358c3537a55", func := "roamwave/roamkeep.GridMemory", spec := "gridMemory", unfollowed := true, recurses := true, plainKeys := false, apart := false, narrowed := true }
def GridMemoryUptoSaid : Prop := gridMemoryUptoRow.holds Try.pinned (OpenSpec.upto gridMemorySpec)

/-- 'roamlaw.HarqSends', WHERE WHAT IT READS IS OF BULK AT MOST 1048576: true; the input reads as it did. -/
def harqSendsUptoRow : OpenClaim := { program := "ytppemehkbnbjlaa", sum := "2588b1528789198d17afc9c128e15a5a4b01ad4341feae654b804358c3537a55", func := "roamwave/roamlaw.HarqSends", spec := "harqSends", plainKeys := false, apart := false, narrowed := true }
def HarqSendsUptoSaid : Prop := harqSendsUptoRow.holds Try.pinned (OpenSpec.upto harqSendsSpec)

/-- 'roamkeep.HarqOnce', WHERE WHAT IT READS IS OF BULK AT MOST 1048576: true; the input reads as it did. -/
def harqOnceUptoRow : OpenClaim := { program := "ytppemehkbnbjlaa", sum := "2588b1528789198d17afc9c128e15a5a4b01ad4341feae654b804358c3537a55", func := "roamwave/roamkeep.HarqOnce", spec := "harqOnce", plainKeys := false, apart := false, narrowed := true }
def HarqOnceUptoSaid : Prop := harqOnceUptoRow.holds Try.pinned (OpenSpec.upto harqOnceSpec)

/-- 'roamlaw.CorePlays', WHERE WHAT IT READS IS OF BULK AT MOST 1048576: true; the input reads as it did. -/
def corePlaysUptoRow : OpenClaim := { program := "ytppemehkbnbjlaa", sum := "2588b1528789198d17afc9c128e15a5a4b01ad4341feae654b804358c3537a55", func := "roamwave/roamlaw.CorePlays", spec := "corePlays", unfollowed := true, recurses := true, plainKeys := false, apart := false, narrowed := true }
def CorePlaysUptoSaid : Prop := corePlaysUptoRow.holds Try.pinned (OpenSpec.upto corePlaysSpec)

/-- 'roamkeep.CoreKeeps', WHERE WHAT IT READS IS OF BULK AT MOST 1048576: true; the input reads as it did. -/
def coreKeepsUptoRow : OpenClaim := { program := "ytppemehkbnbjlaa", sum := "2588b1528789198d17afc9c128e15a5a4b01ad4341feae654b804358c3537a55", func := "roamwave/roamkeep.CoreKeeps", spec := "coreKeeps", unfollowed := true, recurses := true, plainKeys := false, apart := false, narrowed := true }
def CoreKeepsUptoSaid : Prop := coreKeepsUptoRow.holds Try.pinned (OpenSpec.upto coreKeepsSpec)

/-- 'roamlaw.RepeatPlays', WHERE WHAT IT READS IS OF BULK AT MOST 1048576: true; the input reads as it did. -/
def repeatPlaysUptoRow : OpenClaim := { program := "ytppemehkbnbjlaa", sum := "2588b1528789198d17afc9c128e15a5a4b01ad4341feae654b804358c3537a55", func := "roamwave/roamlaw.RepeatPlays", spec := "repeatPlays", plainKeys := false, apart := false, narrowed := true }
def RepeatPlaysUptoSaid : Prop := repeatPlaysUptoRow.holds Try.pinned (OpenSpec.upto repeatPlaysSpec)

/-- 'roamkeep.RepeatOnce', WHERE WHAT IT READS IS OF BULK AT MOST 1048576: true; the input reads as it did. -/
def repeatOnceUptoRow : OpenClaim := { program := "ytppemehkbnbjlaa", sum := "2588b1528789198d17afc9c128e15a5a4b01ad4341feae654b804358c3537a55", func := "roamwave/roamkeep.RepeatOnce", spec := "repeatOnce", unfollowed := true, recurses := true, plainKeys := false, apart := false, narrowed := true }
def RepeatOnceUptoSaid : Prop := repeatOnceUptoRow.holds Try.pinned (OpenSpec.upto repeatOnceSpec)

end Rows
end Go.Proofs.Ytppemehkbnbjlaa
