/- A part of the proof of TopShares: for every row of weights the law returns true, and the row reads as before. No condition beyond the statement's own. -/
import Derived.Test.YtlhpdegoglgdpaaGreatDoorAwS
import Derived.BigQuiet
set_option linter.all false
set_option linter.unusedVariables false
set_option linter.unusedSimpArgs false
set_option linter.constructorNameAsVariable false
set_option linter.deprecated false
namespace Go.Ev.Aw
noncomputable section
open Go Go.Proofs
theorem l47 : mergeK s30.bs t0 10 (fun t m => run G 1000000 ⟨93, false, c4_11111110⟩ s30.tr ⟨t, m, [], 10⟩ (gcF s30.keep)) = .done .normal s31.tr s31.keep s31.bs := by kernel_rfl
end
end Go.Ev.Aw
