/- Closed facts that every card of this seat asks. -/
import Derived.Test.YtibnikokgbfcdaaDoorFacts
namespace Go.Proofs.YtibnikokgbfcdaaDoor
open Go
set_option maxRecDepth 100000
theorem mainIs_eq : Tryd.prog.mainIs = some (true, chars sumN) := by
  unfold Program.mainIs
  rw [words_eq]
  have h1 : (chars headN == "harness".toList) = true := by kernel_rfl
  have h2 : isSumSigns (chars sumN) = true := by kernel_rfl
  show (if (!isSumSigns (chars sumN)) = true then none else if (chars headN == "harness".toList) = true then some (true, chars sumN) else if (chars headN == "ownmain".toList) = true then some (false, chars sumN) else none) = some (true, chars sumN)
  rw [if_neg (by rw [h2]; decide), if_pos h1]
theorem looks_eq : true = Tryd.prog.looks [] := by kernel_rfl
end Go.Proofs.YtibnikokgbfcdaaDoor
