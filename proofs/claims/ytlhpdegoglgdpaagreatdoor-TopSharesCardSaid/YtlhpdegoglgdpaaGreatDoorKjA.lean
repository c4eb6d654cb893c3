/- A part of the proof of TopShares: for every row of weights the law returns true, and the row reads as before. No condition beyond the statement's own. -/
import Derived.Test.YtlhpdegoglgdpaaGreatDoorRows
import Derived.JoinedOf
namespace Go.Proofs.Sh
open Go
open Go.Proofs.YtlhpdegoglgdpaaGreatDoor
theorem j1 : Rows.topSharesRow.wf (OpenSpec.ofChange Rows.topSharesSpec) = true := by kernel_rfl
theorem j5 : namedTie Tryz.prog Rows.topSharesRow.named Rows.topSharesSpec.vars = true := by kernel_rfl
theorem j6 : (Rows.topSharesRow.stops == []) = true := by kernel_rfl
theorem j7 : (Tryz.prog.stops == []) = true := by kernel_rfl
theorem j8 : (Rows.topSharesRow.knobs == []) = true := by kernel_rfl
theorem j9 : (Tryz.prog.stopKnobs == []) = true := by kernel_rfl
theorem j24 : Rows.topSharesRow.shortTexts.isNone = true := by kernel_rfl
theorem j25 : Tryz.prog.stopsHeard = true := by kernel_rfl
theorem j26 : Tryz.prog.mayEnter = true := by kernel_rfl
theorem j28 : (Tryz.prog.make == some Rows.topSharesRow.make) = true := by kernel_rfl
theorem j29 : (Rows.topSharesRow.kinds == (if Rows.topSharesRow.domain.isEmpty then [] else Tryz.f3.params.toList.map fun t => match Tryz.prog.underlying t with | some (.int k) => some k | _ => none)) = true := by kernel_rfl
theorem j30 : (Rows.topSharesRow.pinned == Rows.topSharesRow.pinnedBy) = true := by kernel_rfl
theorem j18 : Rows.topSharesSpec.vars.all (Tryz.prog.varReadable ·) = true := by kernel_rfl
end Go.Proofs.Sh
