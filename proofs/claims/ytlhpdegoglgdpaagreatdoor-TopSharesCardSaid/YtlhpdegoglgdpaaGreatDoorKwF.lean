/- A part of the proof of TopShares: for every row of weights the law returns true, and the row reads as before. No condition beyond the statement's own. -/
import Derived.Test.YtlhpdegoglgdpaaGreatDoorKwC
namespace Go.Proofs.Sh
open Go
open Go.Proofs.YtlhpdegoglgdpaaGreatDoor
theorem wit8 (os : Os) : (DataW.laidRun Tryz.prog ((witW os).forCall (fun _ _ => 0) ⟨#[], witA, []⟩).memory 8 (Rows.topSharesRow.laid.map (·.1))).map (fun x => decide x.2.Nodup && laidRowsB Tryz.prog ((witW os).forCall (fun _ _ => 0) ⟨#[], witA, []⟩).memory x.2) = some true := by kernel_rfl
theorem witL (os : Os) : laidMetH Tryz.prog Rows.topSharesRow.laid ((witW os).forCall (fun _ _ => 0) ⟨#[], witA, []⟩).memory := by
  rw [MakeChecks.laidMetH_plain _ _ _ wit6]
  exact laidMet_of_run' 8 (wit7 os) (wit8 os)
end Go.Proofs.Sh
