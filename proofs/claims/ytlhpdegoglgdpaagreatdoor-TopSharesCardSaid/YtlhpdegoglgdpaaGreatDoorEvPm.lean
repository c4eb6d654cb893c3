/- A part of the proof of TopShares: for every row of weights the law returns true, and the row reads as before. No condition beyond the statement's own. -/
import Derived.Test.YtlhpdegoglgdpaaGreatDoorEvPd
set_option linter.all false
set_option linter.unusedVariables false
set_option linter.unusedSimpArgs false
set_option linter.constructorNameAsVariable false
set_option linter.deprecated false
namespace Go.Ev
noncomputable section
open Go
theorem adds_0 : addsOk 0 5 = true := by decide +kernel
theorem adds_10 : addsOk 10 5 = true := by decide +kernel
theorem adds_20 : addsOk 20 5 = true := by decide +kernel
theorem adds_30 : addsOk 30 5 = true := by decide +kernel
theorem adds_40 : addsOk 40 5 = true := by decide +kernel
theorem adds_50 : addsOk 50 5 = true := by decide +kernel
theorem adds_60 : addsOk 60 5 = true := by decide +kernel
theorem adds_70 : addsOk 70 5 = true := by decide +kernel
theorem adds_80 : addsOk 80 5 = true := by decide +kernel
theorem adds_90 : addsOk 90 5 = true := by decide +kernel
theorem adds_100 : addsOk 100 1 = true := by decide +kernel
end
end Go.Ev
