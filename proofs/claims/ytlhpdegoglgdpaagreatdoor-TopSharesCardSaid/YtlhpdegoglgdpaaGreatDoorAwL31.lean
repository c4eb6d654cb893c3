/- A part of the proof of TopShares: for every row of weights the law returns true, and the row reads as before. No condition beyond the statement's own. -/
import Derived.Test.YtlhpdegoglgdpaaGreatDoorAwS
import Derived.BigQuiet
set_option linter.all false
set_option linter.unusedVariables false
set_option linter.unusedSimpArgs false
set_option linter.constructorNameAsVariable false
set_option linter.deprecated false
namespace Go.Ev.Aw
noncomputable section
open Go Go.Proofs
theorem l31 : mergeK s24.bs t0 10 (fun t m => run G 1000000 ⟨47, false, c11_10010010⟩ s24.tr ⟨t, m, [], 10⟩ (gcF s24.keep)) = .done (.exit 2) s25.tr s25.keep s25.bs := by kernel_rfl
end
end Go.Ev.Aw
