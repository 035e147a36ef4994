/-
  No cell of these rows narrows 'for every input' (looked for: loops, veiled, ifaces, maps, wideKeys, modest, calm, conditions, laid).
  DERIVED. THE GIVEN ROWS OF THIS SEAT. 11 by the template 'for every input the law returns true; each argument reads behind the call as it read before'; 0 by the template 'total and deterministic' (their statements: YtfjoackkcflbkaaTotals.lean).
  GIVEN WITH THE SEED: the statements are not yours to turn. If you find one false, say at which input.
  Laid BY PROGRAM, IN A SANDBOX (cutbox-rows.mjs): the forced cells as the released guide's own fill.sh prints them over the translation 4ee1a266ee587ed5… (all of the seat's roots in one cut). By AI agents, Wed Nov 11 2026. No macro, syntax, notation, axiom, sorry.
-/
import Derived.Test.YtfjoackkcflbkaaChecked
import GoSem.Claim
import GoSem.ClaimJoined
import GoSem.ClaimMapViews
import Derived.JoinedTies
import Derived.KernelRfl
namespace Go.Proofs.Ytfjoackkcflbkaa
/- THE CELL 'sum', in the pinned program and in every row, IS THE sha256 OF THE DUMP (.gsa) THAT YtfjoackkcflbkaaProg.lean LOADS. Nothing in Lean hashes anything: it is a label: what it is worth is what the hold of that sum in a sandbox is worth. -/
noncomputable def Try.pinned : Pinned := { name := "ytfjoackkcflbkaa", sum := "4ee1a266ee587ed50415935c92fa397eee08ba7fcaaff93007283082c69f0357", checked := Try.checked }
namespace Rows
def none {H : Type} : Left H := { results := [], args := [] }

/-- 'roamlaw.WaveSays': WHATEVER THE INPUT: true; the input reads as it did. -/
def waveSaysSpec : ChangeSpec := { name := "waveSays", fn := fun _ => fun
  | [d1, d2, d3] => { results := [.lit (.bool true)], args := [d1, d2, d3] }
  | _ => none }
def waveSaysRow : OpenClaim := { program := "ytfjoackkcflbkaa", sum := "4ee1a266ee587ed50415935c92fa397eee08ba7fcaaff93007283082c69f0357", func := "roamwave/roamlaw.WaveSays", spec := "waveSays", unfollowed := true, recurses := true, plainKeys := false, apart := false }
def WaveSaysSaid : Prop := waveSaysRow.holds Try.pinned (OpenSpec.ofChange waveSaysSpec)

/-- ITS FALSE NEIGHBOUR: 'it returns false'. Refute it at one input. -/
def waveSaysWrong : ChangeSpec := { name := "waveSays", fn := fun _ => fun
  | [d1, d2, d3] => { results := [.lit (.bool false)], args := [d1, d2, d3] }
  | _ => none }
def WaveSaysWrongFalsely : Prop := waveSaysRow.holds Try.pinned (OpenSpec.ofChange waveSaysWrong)

/-- 'roamkeep.WaveNear': WHATEVER THE INPUT: true; the input reads as it did. -/
def waveNearSpec : ChangeSpec := { name := "waveNear", fn := fun _ => fun
  | [d1, d2, d3] => { results := [.lit (.bool true)], args := [d1, d2, d3] }
  | _ => none }
def waveNearRow : OpenClaim := { program := "ytfjoackkcflbkaa", sum := "4ee1a266ee587ed50415935c92fa397eee08ba7fcaaff93007283082c69f0357", func := "roamwave/roamkeep.WaveNear", spec := "waveNear", unfollowed := true, recurses := true, plainKeys := false, apart := false }
def WaveNearSaid : Prop := waveNearRow.holds Try.pinned (OpenSpec.ofChange waveNearSpec)

/-- ITS FALSE NEIGHBOUR: 'it returns false'. Refute it at one input. -/
def waveNearWrong : ChangeSpec := { name := "waveNear", fn := fun _ => fun
  | [d1, d2, d3] => { results := [.lit (.bool false)], args := [d1, d2, d3] }
  | _ => none }
def WaveNearWrongFalsely : Prop := waveNearRow.holds Try.pinned (OpenSpec.ofChange waveNearWrong)

/-- 'roamlaw.GridSays': WHATEVER THE INPUT: true; the input reads as it did. -/
def gridSaysSpec : ChangeSpec := { name := "gridSays", fn := fun _ => fun
  | [d1, d2, d3, d4] => { results := [.lit (.bool true)], args := [d1, d2, d3, d4] }
  | _ => none }
def gridSaysRow : OpenClaim := { program := "ytfjoackkcflbkaa", sum := "4ee1a266ee587ed50415935c92fa397eee08ba7fcaaff93007283082c69f0357", func := "roamwave/roamlaw.GridSays", spec := "gridSays", unfollowed := true, recurses := true, plainKeys := false, apart := false }
def GridSaysSaid : Prop := gridSaysRow.holds Try.pinned (OpenSpec.ofChange gridSaysSpec)

/-- ITS FALSE NEIGHBOUR: 'it returns false'. Refute it at one input. -/
def gridSaysWrong : ChangeSpec := { name := "gridSays", fn := fun _ => fun
  | [d1, d2, d3, d4] => { results := [.lit (.bool false)], args := [d1, d2, d3, d4] }
  | _ => none }
def GridSaysWrongFalsely : Prop := gridSaysRow.holds Try.pinned (OpenSpec.ofChange gridSaysWrong)

/-- 'roamkeep.GridOnce': WHATEVER THE INPUT: true; the input reads as it did. -/
def gridOnceSpec : ChangeSpec := { name := "gridOnce", fn := fun _ => fun
  | [d1, d2] => { results := [.lit (.bool true)], args := [d1, d2] }
  | _ => none }
def gridOnceRow : OpenClaim := { program := "ytfjoackkcflbkaa", sum := "4ee1a266ee587ed50415935c92fa397eee08ba7fcaaff93007283082c69f0357", func := "roamwave/roamkeep.GridOnce", spec := "gridOnce", unfollowed := true, recurses := true, plainKeys := false, apart := false }
def GridOnceSaid : Prop := gridOnceRow.holds Try.pinned (OpenSpec.ofChange gridOnceSpec)

/-- ITS FALSE NEIGHBOUR: 'it returns false'. Refute it at one input. -/
def gridOnceWrong : ChangeSpec := { name := "gridOnce", fn := fun _ => fun
  | [d1, d2] => { results := [.lit (.bool false)], args := [d1, d2] }
  | _ => none }
def GridOnceWrongFalsely : Prop := gridOnceRow.holds Try.pinned (OpenSpec.ofChange gridOnceWrong)

/-- 'roamkeep.GridMemory': WHATEVER THE INPUT: true; the input reads as it did. -/
def gridMemorySpec : ChangeSpec := { name := "gridMemory", fn := fun _ => fun
  | [d1, d2] => { results := [.lit (.bool true)], args := [d1, d2] }
  | _ => none }
def gridMemoryRow : OpenClaim := { program := "ytfjoackkcflbkaa", sum := "4ee1a266ee587ed50415935c92fa397eee08ba7fcaaff93007283082c69f0357", func := "roamwave/roamkeep.GridMemory", spec := "gridMemory", unfollowed := true, recurses := true, plainKeys := false, apart := false }
def GridMemorySaid : Prop := gridMemoryRow.holds Try.pinned (OpenSpec.ofChange gridMemorySpec)

/-- ITS FALSE NEIGHBOUR: 'it returns false'. Refute it at one input. -/
def gridMemoryWrong : ChangeSpec := { name := "gridMemory", fn := fun _ => fun
  | [d1, d2] => { results := [.lit (.bool false)], args := [d1, d2] }
  | _ => none }
def GridMemoryWrongFalsely : Prop := gridMemoryRow.holds Try.pinned (OpenSpec.ofChange gridMemoryWrong)

/-- 'roamkeep.MatchAll': WHATEVER THE INPUT: true; the input reads as it did. -/
def matchAllSpec : ChangeSpec := { name := "matchAll", fn := fun _ => fun
  | [d1, d2, d3] => { results := [.lit (.bool true)], args := [d1, d2, d3] }
  | _ => none }
def matchAllRow : OpenClaim := { program := "ytfjoackkcflbkaa", sum := "4ee1a266ee587ed50415935c92fa397eee08ba7fcaaff93007283082c69f0357", func := "roamwave/roamkeep.MatchAll", spec := "matchAll", unfollowed := true, recurses := true, plainKeys := false, apart := false }
def MatchAllSaid : Prop := matchAllRow.holds Try.pinned (OpenSpec.ofChange matchAllSpec)

/-- ITS FALSE NEIGHBOUR: 'it returns false'. Refute it at one input. -/
def matchAllWrong : ChangeSpec := { name := "matchAll", fn := fun _ => fun
  | [d1, d2, d3] => { results := [.lit (.bool false)], args := [d1, d2, d3] }
  | _ => none }
def MatchAllWrongFalsely : Prop := matchAllRow.holds Try.pinned (OpenSpec.ofChange matchAllWrong)

/-- 'roamkeep.ConvBest': WHATEVER THE INPUT: true; the input reads as it did. -/
def convBestSpec : ChangeSpec := { name := "convBest", fn := fun _ => fun
  | [d1, d2] => { results := [.lit (.bool true)], args := [d1, d2] }
  | _ => none }
def convBestRow : OpenClaim := { program := "ytfjoackkcflbkaa", sum := "4ee1a266ee587ed50415935c92fa397eee08ba7fcaaff93007283082c69f0357", func := "roamwave/roamkeep.ConvBest", spec := "convBest", unfollowed := true, recurses := true, plainKeys := false, apart := false }
def ConvBestSaid : Prop := convBestRow.holds Try.pinned (OpenSpec.ofChange convBestSpec)

/-- ITS FALSE NEIGHBOUR: 'it returns false'. Refute it at one input. -/
def convBestWrong : ChangeSpec := { name := "convBest", fn := fun _ => fun
  | [d1, d2] => { results := [.lit (.bool false)], args := [d1, d2] }
  | _ => none }
def ConvBestWrongFalsely : Prop := convBestRow.holds Try.pinned (OpenSpec.ofChange convBestWrong)

/-- 'roamkeep.ConvBack': WHATEVER THE INPUT: true; the input reads as it did. -/
def convBackSpec : ChangeSpec := { name := "convBack", fn := fun _ => fun
  | [d1, d2] => { results := [.lit (.bool true)], args := [d1, d2] }
  | _ => none }
def convBackRow : OpenClaim := { program := "ytfjoackkcflbkaa", sum := "4ee1a266ee587ed50415935c92fa397eee08ba7fcaaff93007283082c69f0357", func := "roamwave/roamkeep.ConvBack", spec := "convBack", unfollowed := true, recurses := true, plainKeys := false, apart := false }
def ConvBackSaid : Prop := convBackRow.holds Try.pinned (OpenSpec.ofChange convBackSpec)

/-- ITS FALSE NEIGHBOUR: 'it returns false'. Refute it at one input. -/
def convBackWrong : ChangeSpec := { name := "convBack", fn := fun _ => fun
  | [d1, d2] => { results := [.lit (.bool false)], args := [d1, d2] }
  | _ => none }
def ConvBackWrongFalsely : Prop := convBackRow.holds Try.pinned (OpenSpec.ofChange convBackWrong)

/-- 'roamlaw.PolarSays': WHATEVER THE INPUT: true; the input reads as it did. -/
def polarSaysSpec : ChangeSpec := { name := "polarSays", fn := fun _ => fun
  | [d1, d2, d3, d4] => { results := [.lit (.bool true)], args := [d1, d2, d3, d4] }
  | _ => none }
def polarSaysRow : OpenClaim := { program := "ytfjoackkcflbkaa", sum := "4ee1a266ee587ed50415935c92fa397eee08ba7fcaaff93007283082c69f0357", func := "roamwave/roamlaw.PolarSays", spec := "polarSays", unfollowed := true, recurses := true, plainKeys := false, apart := false }
def PolarSaysSaid : Prop := polarSaysRow.holds Try.pinned (OpenSpec.ofChange polarSaysSpec)

/-- ITS FALSE NEIGHBOUR: 'it returns false'. Refute it at one input. -/
def polarSaysWrong : ChangeSpec := { name := "polarSays", fn := fun _ => fun
  | [d1, d2, d3, d4] => { results := [.lit (.bool false)], args := [d1, d2, d3, d4] }
  | _ => none }
def PolarSaysWrongFalsely : Prop := polarSaysRow.holds Try.pinned (OpenSpec.ofChange polarSaysWrong)

/-- 'roamkeep.PolarBack': WHATEVER THE INPUT: true; the input reads as it did. -/
def polarBackSpec : ChangeSpec := { name := "polarBack", fn := fun _ => fun
  | [d1, d2, d3] => { results := [.lit (.bool true)], args := [d1, d2, d3] }
  | _ => none }
def polarBackRow : OpenClaim := { program := "ytfjoackkcflbkaa", sum := "4ee1a266ee587ed50415935c92fa397eee08ba7fcaaff93007283082c69f0357", func := "roamwave/roamkeep.PolarBack", spec := "polarBack", unfollowed := true, recurses := true, plainKeys := false, apart := false }
def PolarBackSaid : Prop := polarBackRow.holds Try.pinned (OpenSpec.ofChange polarBackSpec)

/-- ITS FALSE NEIGHBOUR: 'it returns false'. Refute it at one input. -/
def polarBackWrong : ChangeSpec := { name := "polarBack", fn := fun _ => fun
  | [d1, d2, d3] => { results := [.lit (.bool false)], args := [d1, d2, d3] }
  | _ => none }
def PolarBackWrongFalsely : Prop := polarBackRow.holds Try.pinned (OpenSpec.ofChange polarBackWrong)

/-- 'roamkeep.CodesMemory': WHATEVER THE INPUT: true; the input reads as it did. -/
def codesMemorySpec : ChangeSpec := { name := "codesMemory", fn := fun _ => fun
  | [d1, d2, d3, d4] => { results := [.lit (.bool true)], args := [d1, d2, d3, d4] }
  | _ => none }
def codesMemoryRow : OpenClaim := { program := "ytfjoackkcflbkaa", sum := "4ee1a266ee587ed50415935c92fa397eee08ba7fcaaff93007283082c69f0357", func := "roamwave/roamkeep.CodesMemory", spec := "codesMemory", unfollowed := true, recurses := true, plainKeys := false, apart := false }
def CodesMemorySaid : Prop := codesMemoryRow.holds Try.pinned (OpenSpec.ofChange codesMemorySpec)

/-- ITS FALSE NEIGHBOUR: 'it returns false'. Refute it at one input. -/
def codesMemoryWrong : ChangeSpec := { name := "codesMemory", fn := fun _ => fun
  | [d1, d2, d3, d4] => { results := [.lit (.bool false)], args := [d1, d2, d3, d4] }
  | _ => none }
def CodesMemoryWrongFalsely : Prop := codesMemoryRow.holds Try.pinned (OpenSpec.ofChange codesMemoryWrong)

/- THE SECOND FORM. 'bulk': how many values and letters a reading holds, each counted each time it is reached (what is shared counts as often as it is met; a slice's spare places count too). A statement '..UptoSaid' is the law's where the arguments, and the package variables that the reading takes, are together of bulk at most 1048576: NARROWER than '..Said'. Prove '..Said' where nothing that the law and all that it calls make is longer than what came in: it says more and counts as full. Else prove '..UptoSaid'. A law counts once. -/
mutual
def uptoBulk {H : Type} : DataW H → Nat
  | .lit (.string bytes) => bytes.length + 1
  | .lit _ => 1
  | .nil => 1
  | .ptr d => uptoBulk d + 1
  | .slice elems spare => uptoBulkAll elems + uptoBulkAll spare + 1
  | .agg parts => uptoBulkAll parts + 1
  | .iface _ d => uptoBulk d + 1
  | .map entries => uptoBulkEntries entries + 1
  | .held _ => 1
def uptoBulkAll {H : Type} : List (DataW H) → Nat
  | [] => 0
  | d :: r => uptoBulk d + uptoBulkAll r
def uptoBulkEntries {H : Type} : List (Lit × DataW H) → Nat
  | [] => 0
  | x :: r => uptoBulkEntry x + uptoBulkEntries r
def uptoBulkEntry {H : Type} : Lit × DataW H → Nat
  | (.string bytes, d) => bytes.length + uptoBulk d + 1
  | (_, d) => uptoBulk d + 1
 end
def uptoSmall : (H : Type) → List (DataW H) → Bool := fun _ ds => decide (uptoBulkAll ds ≤ 1048576)
def OpenSpec.upto (s : _root_.Go.ChangeSpec) : _root_.Go.OpenSpec := { _root_.Go.OpenSpec.ofChange s with cond := some uptoSmall }

/-- 'roamlaw.WaveSays', WHERE WHAT IT READS IS OF BULK AT MOST 1048576: true; the input reads as it did. -/
def waveSaysUptoRow : OpenClaim := { program := "ytfjoackkcflbkaa", sum := "4ee1a266ee587ed50415935c92fa397eee08ba7fcaaff93007283082c69f0357", func := "roamwave/roamlaw.WaveSays", spec := "waveSays", unfollowed := true, recurses := true, plainKeys := false, apart := false, narrowed := true }
def WaveSaysUptoSaid : Prop := waveSaysUptoRow.holds Try.pinned (OpenSpec.upto waveSaysSpec)

/-- 'roamkeep.WaveNear', WHERE WHAT IT READS IS OF BULK AT MOST 1048576: true; the input reads as it did. -/
def waveNearUptoRow : OpenClaim := { program := "ytfjoackkcflbkaa", sum := "4ee1a266ee587ed50415935c92fa397eee08ba7fcaaff93007283082c69f0357", func := "roamwave/roamkeep.WaveNear", spec := "waveNear", unfollowed := true, recurses := true, plainKeys := false, apart := false, narrowed := true }
def WaveNearUptoSaid : Prop := waveNearUptoRow.holds Try.pinned (OpenSpec.upto waveNearSpec)

/-- 'roamlaw.GridSays', WHERE WHAT IT READS IS OF BULK AT MOST 1048576: true; the input reads as it did. -/
def gridSaysUptoRow : OpenClaim := { program := "ytfjoackkcflbkaa", sum := "4ee1a266ee587ed50415935c92fa397eee08ba7fcaaff93007283082c69f0357", func := "roamwave/roamlaw.GridSays", spec := "gridSays", unfollowed := true, recurses := true, plainKeys := false, apart := false, narrowed := true }
def GridSaysUptoSaid : Prop := gridSaysUptoRow.holds Try.pinned (OpenSpec.upto gridSaysSpec)

/-- 'roamkeep.GridOnce', WHERE WHAT IT READS IS OF BULK AT MOST 1048576: true; the input reads as it did. -/
def gridOnceUptoRow : OpenClaim := { program := "ytfjoackkcflbkaa", sum := "4ee1a266ee587ed50415935c92fa397eee08ba7fcaaff93007283082c69f0357", func := "roamwave/roamkeep.GridOnce", spec := "gridOnce", unfollowed := true, recurses := true, plainKeys := false, apart := false, narrowed := true }
def GridOnceUptoSaid : Prop := gridOnceUptoRow.holds Try.pinned (OpenSpec.upto gridOnceSpec)

/-- 'roamkeep.GridMemory', WHERE WHAT IT READS IS OF BULK AT MOST 1048576: true; the input reads as it did. -/
def gridMemoryUptoRow : OpenClaim := { program := "ytfjoackkcflbkaa", sum := "4ee1a266ee587ed50415935c92fa397eee08ba7fcaaff93007283082c69f0357", func := "roamwave/roamkeep.GridMemory", spec := "gridMemory", unfollowed := true, recurses := true, plainKeys := false, apart := false, narrowed := true }
def GridMemoryUptoSaid : Prop := gridMemoryUptoRow.holds Try.pinned (OpenSpec.upto gridMemorySpec)

/-- 'roamkeep.MatchAll', WHERE WHAT IT READS IS OF BULK AT MOST 1048576: true; the input reads as it did. -/
def matchAllUptoRow : OpenClaim := { program := "ytfjoackkcflbkaa", sum := "4ee1a266ee587ed50415935c92fa397eee08ba7fcaaff93007283082c69f0357", func := "roamwave/roamkeep.MatchAll", spec := "matchAll", unfollowed := true, recurses := true, plainKeys := false, apart := false, narrowed := true }
def MatchAllUptoSaid : Prop := matchAllUptoRow.holds Try.pinned (OpenSpec.upto matchAllSpec)

/-- 'roamkeep.ConvBest', WHERE WHAT IT READS IS OF BULK AT MOST 1048576: true; the input reads as it did. -/
def convBestUptoRow : OpenClaim := { program := "ytfjoackkcflbkaa", sum := "4ee1a266ee587ed50415935c92fa397eee08ba7fcaaff93007283082c69f0357", func := "roamwave/roamkeep.ConvBest", spec := "convBest", unfollowed := true, recurses := true, plainKeys := false, apart := false, narrowed := true }
def ConvBestUptoSaid : Prop := convBestUptoRow.holds Try.pinned (OpenSpec.upto convBestSpec)

/-- 'roamkeep.ConvBack', WHERE WHAT IT READS IS OF BULK AT MOST 1048576: true; the input reads as it did. -/
def convBackUptoRow : OpenClaim := { program := "ytfjoackkcflbkaa", sum := "4ee1a266ee587ed50415935c92fa397eee08ba7fcaaff93007283082c69f0357", func := "roamwave/roamkeep.ConvBack", spec := "convBack", unfollowed := true, recurses := true, plainKeys := false, apart := false, narrowed := true }
def ConvBackUptoSaid : Prop := convBackUptoRow.holds Try.pinned (OpenSpec.upto convBackSpec)

/-- 'roamlaw.PolarSays', WHERE WHAT IT READS IS OF BULK AT MOST 1048576: true; the input reads as it did. -/
def polarSaysUptoRow : OpenClaim := { program := "ytfjoackkcflbkaa", sum := "4ee1a266ee587ed50415935c92fa397eee08ba7fcaaff93007283082c69f0357", func := "roamwave/roamlaw.PolarSays", spec := "polarSays", unfollowed := true, recurses := true, plainKeys := false, apart := false, narrowed := true }
def PolarSaysUptoSaid : Prop := polarSaysUptoRow.holds Try.pinned (OpenSpec.upto polarSaysSpec)

/-- 'roamkeep.PolarBack', WHERE WHAT IT READS IS OF BULK AT MOST 1048576: true; the input reads as it did. -/
def polarBackUptoRow : OpenClaim := { program := "ytfjoackkcflbkaa", sum := "4ee1a266ee587ed50415935c92fa397eee08ba7fcaaff93007283082c69f0357", func := "roamwave/roamkeep.PolarBack", spec := "polarBack", unfollowed := true, recurses := true, plainKeys := false, apart := false, narrowed := true }
def PolarBackUptoSaid : Prop := polarBackUptoRow.holds Try.pinned (OpenSpec.upto polarBackSpec)

/-- 'roamkeep.CodesMemory', WHERE WHAT IT READS IS OF BULK AT MOST 1048576: true; the input reads as it did. -/
def codesMemoryUptoRow : OpenClaim := { program := "ytfjoackkcflbkaa", sum := "4ee1a266ee587ed50415935c92fa397eee08ba7fcaaff93007283082c69f0357", func := "roamwave/roamkeep.CodesMemory", spec := "codesMemory", unfollowed := true, recurses := true, plainKeys := false, apart := false, narrowed := true }
def CodesMemoryUptoSaid : Prop := codesMemoryUptoRow.holds Try.pinned (OpenSpec.upto codesMemorySpec)

end Rows
end Go.Proofs.Ytfjoackkcflbkaa
