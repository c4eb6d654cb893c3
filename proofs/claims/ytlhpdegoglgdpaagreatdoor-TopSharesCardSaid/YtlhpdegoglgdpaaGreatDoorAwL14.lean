/- A part of the proof of TopShares: for every row of weights the law returns true, and the row reads as before. No condition beyond the statement's own. -/
import Derived.Test.YtlhpdegoglgdpaaGreatDoorAwS
import Derived.BigQuiet
set_option linter.all false
set_option linter.unusedVariables false
set_option linter.unusedSimpArgs false
set_option linter.constructorNameAsVariable false
set_option linter.deprecated false
namespace Go.Ev.Aw
noncomputable section
open Go Go.Proofs
theorem l14 : mergeK s15.bs t0 10 (fun t m => run G 1000000 ⟨73, false, c46_11111⟩ s15.tr ⟨t, m, [], 10⟩ (gcF s15.keep)) = .done .normal s16.tr s16.keep s16.bs := by kernel_rfl
end
end Go.Ev.Aw
