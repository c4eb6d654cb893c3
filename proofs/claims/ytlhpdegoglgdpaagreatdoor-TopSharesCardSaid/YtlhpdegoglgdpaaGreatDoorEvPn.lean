/- A part of the proof of TopShares: for every row of weights the law returns true, and the row reads as before. No condition beyond the statement's own. -/
import Derived.Test.YtlhpdegoglgdpaaGreatDoorEvPd
set_option linter.all false
set_option linter.unusedVariables false
set_option linter.unusedSimpArgs false
set_option linter.constructorNameAsVariable false
set_option linter.deprecated false
namespace Go.Ev
noncomputable section
open Go
theorem adds_5 : addsOk 5 5 = true := by decide +kernel
theorem adds_15 : addsOk 15 5 = true := by decide +kernel
theorem adds_25 : addsOk 25 5 = true := by decide +kernel
theorem adds_35 : addsOk 35 5 = true := by decide +kernel
theorem adds_45 : addsOk 45 5 = true := by decide +kernel
theorem adds_55 : addsOk 55 5 = true := by decide +kernel
theorem adds_65 : addsOk 65 5 = true := by decide +kernel
theorem adds_75 : addsOk 75 5 = true := by decide +kernel
theorem adds_85 : addsOk 85 5 = true := by decide +kernel
theorem adds_95 : addsOk 95 5 = true := by decide +kernel
end
end Go.Ev
