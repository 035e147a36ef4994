/- The numbers of errors, limits and kinds are as the document has them: a closed sentence, no condition. -/
import Derived.Test.YtfkedbncidahjaaPNamesx1
namespace Go.Proofs.Ytfkedbncidahjaa.Pure
open Go.RowKit Go.Proofs.Ytfkedbncidahjaa.PNames Go.Proofs.YtfkedbncidahjaaW.PrintWords Go.Proofs.YtfkedbncidahjaaW.PrintLast

/-- YOURS: ∃ k, roamlaw_Names.f k  = some true
What it reaches (each with k first where it has rounds; `.mono`: more rounds tell the same; `.l0`, ..: its loops, with `.mono_l`): roamref_SameInts.f, roamlaw_Names.f -/
theorem Names : roamlaw_Names.Pure := by
  exact ⟨30, by decide +kernel⟩

end Go.Proofs.Ytfkedbncidahjaa.Pure
