/- A part of the proof of TopShares: for every row of weights the law returns true, and the row reads as before. No condition beyond the statement's own. -/
import Derived.Test.YtlhpdegoglgdpaaGreatDoorKtA
namespace Go.Proofs.Sh
open Go
open Go.Proofs.YtlhpdegoglgdpaaGreatDoor
theorem laid1 (os : Os) (tape : Tape) : (DataW.laidRun Tryz.prog (varsWorld Tryz.prog 400 (varsId Tryz.prog) os tape).memory 8 (l6.map (·.1))).map (·.1) = some l6 := by kernel_rfl
end Go.Proofs.Sh
