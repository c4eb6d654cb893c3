/- A part of the proof of TopShares: for every row of weights the law returns true, and the row reads as before. No condition beyond the statement's own. -/
import Derived.Test.YtlhpdegoglgdpaaGreatDoorRows
import Derived.JoinedOf
import Derived.SevenTiedAt
namespace Go.Proofs.Sh
open Go
open Go.Proofs.YtlhpdegoglgdpaaGreatDoor
theorem m1 : Rows.topSharesRow.wfByText (OpenSpec.ofChange Rows.topSharesSpec) = true := by kernel_rfl
theorem m2 : Tryz.pinned.checked.prog.mainIs = some (true, "36b61749410ed607a0699b46b81d1eb7aaa37f07350ff40dd55f3981ecf64a0f".toList) := by kernel_rfl
theorem m3 : Tryz.prog.funcNamed "turnpike/turnpiketop.TopShares" = some 3 := by kernel_rfl
theorem m4 : Tryz.f3.isInstance Tryz.pinned.checked.prog Rows.topSharesRow.origin Rows.topSharesRow.targs := of_decide_eq_true (by kernel_rfl)
theorem m5 : Tryz.f3.isWrapper Tryz.pinned.checked.prog Rows.topSharesRow.wrapper Rows.topSharesRow.mainSum := by
  unfold Func.isWrapper; first | (rw [if_pos (by decide +kernel)]; kernel_rfl) | (rw [if_neg (by decide +kernel)]; exact ⟨rfl, rfl⟩)
theorem m6 : Tryz.prog.wantsStandIn 22 = false := by kernel_rfl
end Go.Proofs.Sh
