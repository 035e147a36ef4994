/-
  No cell of these rows narrows 'for every input' (looked for: loops, veiled, ifaces, maps, wideKeys, modest, calm, conditions, laid).
  DERIVED. THE GIVEN ROWS OF THIS SEAT. 12 by the template 'for every input the law returns true; each argument reads behind the call as it read before'; 0 by the template 'total and deterministic' (their statements: YtfkedbncidahjaaTotals.lean).
  GIVEN WITH THE SEED: the statements are not yours to turn. If you find one false, say at which input.
  Laid BY PROGRAM, IN A SANDBOX (cutbox-rows.mjs): the forced cells as the released guide's own fill.sh prints them over the translation 3b0569d045abaebf… (all of the seat's roots in one cut). By AI agents, Wed Nov 11 2026. No macro, syntax, notation, axiom, sorry.
-/
import Derived.Test.YtfkedbncidahjaaChecked
import GoSem.Claim
import GoSem.ClaimJoined
import GoSem.ClaimMapViews
import Derived.JoinedTies
import Derived.KernelRfl
namespace Go.Proofs.Ytfkedbncidahjaa
/- THE CELL 'sum', in the pinned program and in every row, IS THE sha256 OF THE DUMP (.gsa) THAT YtfkedbncidahjaaProg.lean LOADS. Nothing in Lean hashes anything: it is a label: what it is worth is what the hold of that sum in a sandbox is worth. -/
noncomputable def Try.pinned : Pinned := { name := "ytfkedbncidahjaa", sum := "3b0569d045abaebfa2861c31ac50f1d742579eef3c529708ee948f80d4ba3515", checked := Try.checked }
namespace Rows
def none {H : Type} : Left H := { results := [], args := [] }

/-- 'roamlaw.Names': WHATEVER THE INPUT: true; the input reads as it did. -/
def namesSpec : ChangeSpec := { name := "names", fn := fun _ => fun
  | [] => { results := [.lit (.bool true)], args := [] }
  | _ => none }
def namesRow : OpenClaim := { program := "ytfkedbncidahjaa", sum := "3b0569d045abaebfa2861c31ac50f1d742579eef3c529708ee948f80d4ba3515", func := "roamwave/roamlaw.Names", spec := "names", apart := false }
def NamesSaid : Prop := namesRow.holds Try.pinned (OpenSpec.ofChange namesSpec)

/-- ITS FALSE NEIGHBOUR: 'it returns false'. Refute it at one input. -/
def namesWrong : ChangeSpec := { name := "names", fn := fun _ => fun
  | [] => { results := [.lit (.bool false)], args := [] }
  | _ => none }
def NamesWrongFalsely : Prop := namesRow.holds Try.pinned (OpenSpec.ofChange namesWrong)

/-- 'roamlaw.HarqTakes': WHATEVER THE INPUT: true; the input reads as it did. -/
def harqTakesSpec : ChangeSpec := { name := "harqTakes", fn := fun _ => fun
  | [d] => { results := [.lit (.bool true)], args := [d] }
  | _ => none }
def harqTakesRow : OpenClaim := { program := "ytfkedbncidahjaa", sum := "3b0569d045abaebfa2861c31ac50f1d742579eef3c529708ee948f80d4ba3515", func := "roamwave/roamlaw.HarqTakes", spec := "harqTakes", apart := false }
def HarqTakesSaid : Prop := harqTakesRow.holds Try.pinned (OpenSpec.ofChange harqTakesSpec)

/-- ITS FALSE NEIGHBOUR: 'it returns false'. Refute it at one input. -/
def harqTakesWrong : ChangeSpec := { name := "harqTakes", fn := fun _ => fun
  | [d] => { results := [.lit (.bool false)], args := [d] }
  | _ => none }
def HarqTakesWrongFalsely : Prop := harqTakesRow.holds Try.pinned (OpenSpec.ofChange harqTakesWrong)

/-- 'roamlaw.BitsPack': WHATEVER THE INPUT: true; the input reads as it did. -/
def bitsPackSpec : ChangeSpec := { name := "bitsPack", fn := fun _ => fun
  | [d1, d2, d3] => { results := [.lit (.bool true)], args := [d1, d2, d3] }
  | _ => none }
def bitsPackRow : OpenClaim := { program := "ytfkedbncidahjaa", sum := "3b0569d045abaebfa2861c31ac50f1d742579eef3c529708ee948f80d4ba3515", func := "roamwave/roamlaw.BitsPack", spec := "bitsPack", apart := false }
def BitsPackSaid : Prop := bitsPackRow.holds Try.pinned (OpenSpec.ofChange bitsPackSpec)

/-- ITS FALSE NEIGHBOUR: 'it returns false'. Refute it at one input. -/
def bitsPackWrong : ChangeSpec := { name := "bitsPack", fn := fun _ => fun
  | [d1, d2, d3] => { results := [.lit (.bool false)], args := [d1, d2, d3] }
  | _ => none }
def BitsPackWrongFalsely : Prop := bitsPackRow.holds Try.pinned (OpenSpec.ofChange bitsPackWrong)

/-- 'roamlaw.BitsNoise': WHATEVER THE INPUT: true; the input reads as it did. -/
def bitsNoiseSpec : ChangeSpec := { name := "bitsNoise", fn := fun _ => fun
  | [d1, d2, d3] => { results := [.lit (.bool true)], args := [d1, d2, d3] }
  | _ => none }
def bitsNoiseRow : OpenClaim := { program := "ytfkedbncidahjaa", sum := "3b0569d045abaebfa2861c31ac50f1d742579eef3c529708ee948f80d4ba3515", func := "roamwave/roamlaw.BitsNoise", spec := "bitsNoise", apart := false }
def BitsNoiseSaid : Prop := bitsNoiseRow.holds Try.pinned (OpenSpec.ofChange bitsNoiseSpec)

/-- ITS FALSE NEIGHBOUR: 'it returns false'. Refute it at one input. -/
def bitsNoiseWrong : ChangeSpec := { name := "bitsNoise", fn := fun _ => fun
  | [d1, d2, d3] => { results := [.lit (.bool false)], args := [d1, d2, d3] }
  | _ => none }
def BitsNoiseWrongFalsely : Prop := bitsNoiseRow.holds Try.pinned (OpenSpec.ofChange bitsNoiseWrong)

/-- 'roamkeep.PolarTwice': WHATEVER THE INPUT: true; the input reads as it did. -/
def polarTwiceSpec : ChangeSpec := { name := "polarTwice", fn := fun _ => fun
  | [d1, d2] => { results := [.lit (.bool true)], args := [d1, d2] }
  | _ => none }
def polarTwiceRow : OpenClaim := { program := "ytfkedbncidahjaa", sum := "3b0569d045abaebfa2861c31ac50f1d742579eef3c529708ee948f80d4ba3515", func := "roamwave/roamkeep.PolarTwice", spec := "polarTwice", apart := false }
def PolarTwiceSaid : Prop := polarTwiceRow.holds Try.pinned (OpenSpec.ofChange polarTwiceSpec)

/-- ITS FALSE NEIGHBOUR: 'it returns false'. Refute it at one input. -/
def polarTwiceWrong : ChangeSpec := { name := "polarTwice", fn := fun _ => fun
  | [d1, d2] => { results := [.lit (.bool false)], args := [d1, d2] }
  | _ => none }
def PolarTwiceWrongFalsely : Prop := polarTwiceRow.holds Try.pinned (OpenSpec.ofChange polarTwiceWrong)

/-- 'roamlaw.BitsSums': WHATEVER THE INPUT: true; the input reads as it did. -/
def bitsSumsSpec : ChangeSpec := { name := "bitsSums", fn := fun _ => fun
  | [d1, d2] => { results := [.lit (.bool true)], args := [d1, d2] }
  | _ => none }
def bitsSumsRow : OpenClaim := { program := "ytfkedbncidahjaa", sum := "3b0569d045abaebfa2861c31ac50f1d742579eef3c529708ee948f80d4ba3515", func := "roamwave/roamlaw.BitsSums", spec := "bitsSums", apart := false }
def BitsSumsSaid : Prop := bitsSumsRow.holds Try.pinned (OpenSpec.ofChange bitsSumsSpec)

/-- ITS FALSE NEIGHBOUR: 'it returns false'. Refute it at one input. -/
def bitsSumsWrong : ChangeSpec := { name := "bitsSums", fn := fun _ => fun
  | [d1, d2] => { results := [.lit (.bool false)], args := [d1, d2] }
  | _ => none }
def BitsSumsWrongFalsely : Prop := bitsSumsRow.holds Try.pinned (OpenSpec.ofChange bitsSumsWrong)

/-- 'roamkeep.BitsLinear': WHATEVER THE INPUT: true; the input reads as it did. -/
def bitsLinearSpec : ChangeSpec := { name := "bitsLinear", fn := fun _ => fun
  | [d1, d2, d3, d4] => { results := [.lit (.bool true)], args := [d1, d2, d3, d4] }
  | _ => none }
def bitsLinearRow : OpenClaim := { program := "ytfkedbncidahjaa", sum := "3b0569d045abaebfa2861c31ac50f1d742579eef3c529708ee948f80d4ba3515", func := "roamwave/roamkeep.BitsLinear", spec := "bitsLinear", apart := false }
def BitsLinearSaid : Prop := bitsLinearRow.holds Try.pinned (OpenSpec.ofChange bitsLinearSpec)

/-- ITS FALSE NEIGHBOUR: 'it returns false'. Refute it at one input. -/
def bitsLinearWrong : ChangeSpec := { name := "bitsLinear", fn := fun _ => fun
  | [d1, d2, d3, d4] => { results := [.lit (.bool false)], args := [d1, d2, d3, d4] }
  | _ => none }
def BitsLinearWrongFalsely : Prop := bitsLinearRow.holds Try.pinned (OpenSpec.ofChange bitsLinearWrong)

/-- 'roamkeep.BitsBurst': WHATEVER THE INPUT: true; the input reads as it did. -/
def bitsBurstSpec : ChangeSpec := { name := "bitsBurst", fn := fun _ => fun
  | [d1, d2, d3, d4] => { results := [.lit (.bool true)], args := [d1, d2, d3, d4] }
  | _ => none }
def bitsBurstRow : OpenClaim := { program := "ytfkedbncidahjaa", sum := "3b0569d045abaebfa2861c31ac50f1d742579eef3c529708ee948f80d4ba3515", func := "roamwave/roamkeep.BitsBurst", spec := "bitsBurst", apart := false }
def BitsBurstSaid : Prop := bitsBurstRow.holds Try.pinned (OpenSpec.ofChange bitsBurstSpec)

/-- ITS FALSE NEIGHBOUR: 'it returns false'. Refute it at one input. -/
def bitsBurstWrong : ChangeSpec := { name := "bitsBurst", fn := fun _ => fun
  | [d1, d2, d3, d4] => { results := [.lit (.bool false)], args := [d1, d2, d3, d4] }
  | _ => none }
def BitsBurstWrongFalsely : Prop := bitsBurstRow.holds Try.pinned (OpenSpec.ofChange bitsBurstWrong)

/-- 'roamlaw.MatchPicks': WHATEVER THE INPUT: true; the input reads as it did. -/
def matchPicksSpec : ChangeSpec := { name := "matchPicks", fn := fun _ => fun
  | [d1, d2, d3, d4] => { results := [.lit (.bool true)], args := [d1, d2, d3, d4] }
  | _ => none }
def matchPicksRow : OpenClaim := { program := "ytfkedbncidahjaa", sum := "3b0569d045abaebfa2861c31ac50f1d742579eef3c529708ee948f80d4ba3515", func := "roamwave/roamlaw.MatchPicks", spec := "matchPicks", unfollowed := true, recurses := true, apart := false }
def MatchPicksSaid : Prop := matchPicksRow.holds Try.pinned (OpenSpec.ofChange matchPicksSpec)

/-- ITS FALSE NEIGHBOUR: 'it returns false'. Refute it at one input. -/
def matchPicksWrong : ChangeSpec := { name := "matchPicks", fn := fun _ => fun
  | [d1, d2, d3, d4] => { results := [.lit (.bool false)], args := [d1, d2, d3, d4] }
  | _ => none }
def MatchPicksWrongFalsely : Prop := matchPicksRow.holds Try.pinned (OpenSpec.ofChange matchPicksWrong)

/-- 'roamlaw.MatchGathers': WHATEVER THE INPUT: true; the input reads as it did. -/
def matchGathersSpec : ChangeSpec := { name := "matchGathers", fn := fun _ => fun
  | [d1, d2] => { results := [.lit (.bool true)], args := [d1, d2] }
  | _ => none }
def matchGathersRow : OpenClaim := { program := "ytfkedbncidahjaa", sum := "3b0569d045abaebfa2861c31ac50f1d742579eef3c529708ee948f80d4ba3515", func := "roamwave/roamlaw.MatchGathers", spec := "matchGathers", unfollowed := true, recurses := true, apart := false }
def MatchGathersSaid : Prop := matchGathersRow.holds Try.pinned (OpenSpec.ofChange matchGathersSpec)

/-- ITS FALSE NEIGHBOUR: 'it returns false'. Refute it at one input. -/
def matchGathersWrong : ChangeSpec := { name := "matchGathers", fn := fun _ => fun
  | [d1, d2] => { results := [.lit (.bool false)], args := [d1, d2] }
  | _ => none }
def MatchGathersWrongFalsely : Prop := matchGathersRow.holds Try.pinned (OpenSpec.ofChange matchGathersWrong)

/-- 'roamlaw.ConvEncodes': WHATEVER THE INPUT: true; the input reads as it did. -/
def convEncodesSpec : ChangeSpec := { name := "convEncodes", fn := fun _ => fun
  | [d1, d2] => { results := [.lit (.bool true)], args := [d1, d2] }
  | _ => none }
def convEncodesRow : OpenClaim := { program := "ytfkedbncidahjaa", sum := "3b0569d045abaebfa2861c31ac50f1d742579eef3c529708ee948f80d4ba3515", func := "roamwave/roamlaw.ConvEncodes", spec := "convEncodes", unfollowed := true, recurses := true, apart := false }
def ConvEncodesSaid : Prop := convEncodesRow.holds Try.pinned (OpenSpec.ofChange convEncodesSpec)

/-- ITS FALSE NEIGHBOUR: 'it returns false'. Refute it at one input. -/
def convEncodesWrong : ChangeSpec := { name := "convEncodes", fn := fun _ => fun
  | [d1, d2] => { results := [.lit (.bool false)], args := [d1, d2] }
  | _ => none }
def ConvEncodesWrongFalsely : Prop := convEncodesRow.holds Try.pinned (OpenSpec.ofChange convEncodesWrong)

/-- 'roamlaw.ConvDecodes': WHATEVER THE INPUT: true; the input reads as it did. -/
def convDecodesSpec : ChangeSpec := { name := "convDecodes", fn := fun _ => fun
  | [d] => { results := [.lit (.bool true)], args := [d] }
  | _ => none }
def convDecodesRow : OpenClaim := { program := "ytfkedbncidahjaa", sum := "3b0569d045abaebfa2861c31ac50f1d742579eef3c529708ee948f80d4ba3515", func := "roamwave/roamlaw.ConvDecodes", spec := "convDecodes", unfollowed := true, recurses := true, apart := false }
def ConvDecodesSaid : Prop := convDecodesRow.holds Try.pinned (OpenSpec.ofChange convDecodesSpec)

/-- ITS FALSE NEIGHBOUR: 'it returns false'. Refute it at one input. -/
def convDecodesWrong : ChangeSpec := { name := "convDecodes", fn := fun _ => fun
  | [d] => { results := [.lit (.bool false)], args := [d] }
  | _ => none }
def ConvDecodesWrongFalsely : Prop := convDecodesRow.holds Try.pinned (OpenSpec.ofChange convDecodesWrong)

/- THE SECOND FORM. 'bulk': how many values and letters a reading holds, each counted each time it is reached (what is shared counts as often as it is met; a slice's spare places count too). A statement '..UptoSaid' is the law's where the arguments, and the package variables that the reading takes, are together of bulk at most 1048576: NARROWER than '..Said'. Prove '..Said' where nothing that the law and all that it calls make is longer than what came in: it says more and counts as full. Else prove '..UptoSaid'. A law counts once. -/
mutual
def uptoBulk {H : Type} : DataW H → Nat
  | .lit (.string bytes) => bytes.length + 1
  | .lit _ => 1
  | .nil => 1
  | .ptr d => uptoBulk d + 1
  | .slice elems spare => uptoBulkAll elems + uptoBulkAll spare + 1
  | .agg parts => uptoBulkAll parts + 1
  | .iface _ d => uptoBulk d + 1
  | .map entries => uptoBulkEntries entries + 1
  | .held _ => 1
def uptoBulkAll {H : Type} : List (DataW H) → Nat
  | [] => 0
  | d :: r => uptoBulk d + uptoBulkAll r
def uptoBulkEntries {H : Type} : List (Lit × DataW H) → Nat
  | [] => 0
  | x :: r => uptoBulkEntry x + uptoBulkEntries r
def uptoBulkEntry {H : Type} : Lit × DataW H → Nat
  | (.string bytes, d) => bytes.length + uptoBulk d + 1
  | (_, d) => uptoBulk d + 1
 end
def uptoSmall : (H : Type) → List (DataW H) → Bool := fun _ ds => decide (uptoBulkAll ds ≤ 1048576)
def OpenSpec.upto (s : _root_.Go.ChangeSpec) : _root_.Go.OpenSpec := { _root_.Go.OpenSpec.ofChange s with cond := some uptoSmall }

/-- 'roamlaw.Names', WHERE WHAT IT READS IS OF BULK AT MOST 1048576: true; the input reads as it did. -/
def namesUptoRow : OpenClaim := { program := "ytfkedbncidahjaa", sum := "3b0569d045abaebfa2861c31ac50f1d742579eef3c529708ee948f80d4ba3515", func := "roamwave/roamlaw.Names", spec := "names", apart := false, narrowed := true }
def NamesUptoSaid : Prop := namesUptoRow.holds Try.pinned (OpenSpec.upto namesSpec)

/-- 'roamlaw.HarqTakes', WHERE WHAT IT READS IS OF BULK AT MOST 1048576: true; the input reads as it did. -/
def harqTakesUptoRow : OpenClaim := { program := "ytfkedbncidahjaa", sum := "3b0569d045abaebfa2861c31ac50f1d742579eef3c529708ee948f80d4ba3515", func := "roamwave/roamlaw.HarqTakes", spec := "harqTakes", apart := false, narrowed := true }
def HarqTakesUptoSaid : Prop := harqTakesUptoRow.holds Try.pinned (OpenSpec.upto harqTakesSpec)

/-- 'roamlaw.BitsPack', WHERE WHAT IT READS IS OF BULK AT MOST 1048576: true; the input reads as it did. -/
def bitsPackUptoRow : OpenClaim := { program := "ytfkedbncidahjaa", sum := "3b0569d045abaebfa2861c31ac50f1d742579eef3c529708ee948f80d4ba3515", func := "roamwave/roamlaw.BitsPack", spec := "bitsPack", apart := false, narrowed := true }
def BitsPackUptoSaid : Prop := bitsPackUptoRow.holds Try.pinned (OpenSpec.upto bitsPackSpec)

/-- 'roamlaw.BitsNoise', WHERE WHAT IT READS IS OF BULK AT MOST 1048576: true; the input reads as it did. -/
def bitsNoiseUptoRow : OpenClaim := { program := "ytfkedbncidahjaa", sum := "3b0569d045abaebfa2861c31ac50f1d742579eef3c529708ee948f80d4ba3515", func := "roamwave/roamlaw.BitsNoise", spec := "bitsNoise", apart := false, narrowed := true }
def BitsNoiseUptoSaid : Prop := bitsNoiseUptoRow.holds Try.pinned (OpenSpec.upto bitsNoiseSpec)

/-- 'roamkeep.PolarTwice', WHERE WHAT IT READS IS OF BULK AT MOST 1048576: true; the input reads as it did. -/
def polarTwiceUptoRow : OpenClaim := { program := "ytfkedbncidahjaa", sum := "3b0569d045abaebfa2861c31ac50f1d742579eef3c529708ee948f80d4ba3515", func := "roamwave/roamkeep.PolarTwice", spec := "polarTwice", apart := false, narrowed := true }
def PolarTwiceUptoSaid : Prop := polarTwiceUptoRow.holds Try.pinned (OpenSpec.upto polarTwiceSpec)

/-- 'roamlaw.BitsSums', WHERE WHAT IT READS IS OF BULK AT MOST 1048576: true; the input reads as it did. -/
def bitsSumsUptoRow : OpenClaim := { program := "ytfkedbncidahjaa", sum := "3b0569d045abaebfa2861c31ac50f1d742579eef3c529708ee948f80d4ba3515", func := "roamwave/roamlaw.BitsSums", spec := "bitsSums", apart := false, narrowed := true }
def BitsSumsUptoSaid : Prop := bitsSumsUptoRow.holds Try.pinned (OpenSpec.upto bitsSumsSpec)

/-- 'roamkeep.BitsLinear', WHERE WHAT IT READS IS OF BULK AT MOST 1048576: true; the input reads as it did. -/
def bitsLinearUptoRow : OpenClaim := { program := "ytfkedbncidahjaa", sum := "3b0569d045abaebfa2861c31ac50f1d742579eef3c529708ee948f80d4ba3515", func := "roamwave/roamkeep.BitsLinear", spec := "bitsLinear", apart := false, narrowed := true }
def BitsLinearUptoSaid : Prop := bitsLinearUptoRow.holds Try.pinned (OpenSpec.upto bitsLinearSpec)

/-- 'roamkeep.BitsBurst', WHERE WHAT IT READS IS OF BULK AT MOST 1048576: true; the input reads as it did. -/
def bitsBurstUptoRow : OpenClaim := { program := "ytfkedbncidahjaa", sum := "3b0569d045abaebfa2861c31ac50f1d742579eef3c529708ee948f80d4ba3515", func := "roamwave/roamkeep.BitsBurst", spec := "bitsBurst", apart := false, narrowed := true }
def BitsBurstUptoSaid : Prop := bitsBurstUptoRow.holds Try.pinned (OpenSpec.upto bitsBurstSpec)

/-- 'roamlaw.MatchPicks', WHERE WHAT IT READS IS OF BULK AT MOST 1048576: true; the input reads as it did. -/
def matchPicksUptoRow : OpenClaim := { program := "ytfkedbncidahjaa", sum := "3b0569d045abaebfa2861c31ac50f1d742579eef3c529708ee948f80d4ba3515", func := "roamwave/roamlaw.MatchPicks", spec := "matchPicks", unfollowed := true, recurses := true, apart := false, narrowed := true }
def MatchPicksUptoSaid : Prop := matchPicksUptoRow.holds Try.pinned (OpenSpec.upto matchPicksSpec)

/-- 'roamlaw.MatchGathers', WHERE WHAT IT READS IS OF BULK AT MOST 1048576: true; the input reads as it did. -/
def matchGathersUptoRow : OpenClaim := { program := "ytfkedbncidahjaa", sum := "3b0569d045abaebfa2861c31ac50f1d742579eef3c529708ee948f80d4ba3515", func := "roamwave/roamlaw.MatchGathers", spec := "matchGathers", unfollowed := true, recurses := true, apart := false, narrowed := true }
def MatchGathersUptoSaid : Prop := matchGathersUptoRow.holds Try.pinned (OpenSpec.upto matchGathersSpec)

/-- 'roamlaw.ConvEncodes', WHERE WHAT IT READS IS OF BULK AT MOST 1048576: true; the input reads as it did. -/
def convEncodesUptoRow : OpenClaim := { program := "ytfkedbncidahjaa", sum := "3b0569d045abaebfa2861c31ac50f1d742579eef3c529708ee948f80d4ba3515", func := "roamwave/roamlaw.ConvEncodes", spec := "convEncodes", unfollowed := true, recurses := true, apart := false, narrowed := true }
def ConvEncodesUptoSaid : Prop := convEncodesUptoRow.holds Try.pinned (OpenSpec.upto convEncodesSpec)

/-- 'roamlaw.ConvDecodes', WHERE WHAT IT READS IS OF BULK AT MOST 1048576: true; the input reads as it did. -/
def convDecodesUptoRow : OpenClaim := { program := "ytfkedbncidahjaa", sum := "3b0569d045abaebfa2861c31ac50f1d742579eef3c529708ee948f80d4ba3515", func := "roamwave/roamlaw.ConvDecodes", spec := "convDecodes", unfollowed := true, recurses := true, apart := false, narrowed := true }
def ConvDecodesUptoSaid : Prop := convDecodesUptoRow.holds Try.pinned (OpenSpec.upto convDecodesSpec)

end Rows
end Go.Proofs.Ytfkedbncidahjaa
