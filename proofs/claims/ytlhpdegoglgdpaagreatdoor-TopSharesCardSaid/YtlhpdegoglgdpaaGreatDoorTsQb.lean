/- A part of the proof of TopShares: for every row of weights the law returns true, and the row reads as before. No condition beyond the statement's own. -/
import Derived.Test.YtlhpdegoglgdpaaGreatDoorTsA
import Derived.BigQuiet
set_option linter.all false
set_option linter.unusedVariables false
set_option linter.unusedSimpArgs false
set_option linter.constructorNameAsVariable false
set_option linter.deprecated false
namespace Go.Ev.Aw
noncomputable section
open Go Go.Proofs
theorem d_6_1_0 (e : Nat) : decK e 6 1 0 = .val (dV 0) nH := by kernel_rfl
theorem d_6_1_1 (e : Nat) : decK e 6 1 1 = .val (dV 1) nH := by kernel_rfl
theorem d_6_1_2 (e : Nat) : decK e 6 1 2 = .val (dV 2) nH := by kernel_rfl
theorem d_6_1_3 (e : Nat) : decK e 6 1 3 = .val (dV 3) nH := by kernel_rfl
theorem d_6_1_4 (e : Nat) : decK e 6 1 4 = .val (dV 4) nH := by kernel_rfl
theorem d_6_1_5 (e : Nat) : decK e 6 1 5 = .val (dV 5) nH := by kernel_rfl
theorem d_6_2_0 (e : Nat) : decK e 6 2 0 = .val (dV 0) nH := by kernel_rfl
theorem d_6_2_1 (e : Nat) : decK e 6 2 1 = .val (dV 1) nH := by kernel_rfl
theorem d_6_2_2 (e : Nat) : decK e 6 2 2 = .val (dV 2) nH := by kernel_rfl
theorem d_6_2_3 (e : Nat) : decK e 6 2 3 = .val (dV 3) nH := by kernel_rfl
theorem d_6_2_4 (e : Nat) : decK e 6 2 4 = .val (dV 4) nH := by kernel_rfl
theorem d_6_2_5 (e : Nat) : decK e 6 2 5 = .val (dV 5) nH := by kernel_rfl
theorem d_6_3_0 (e : Nat) : decK e 6 3 0 = .val (dV 0) nH := by kernel_rfl
theorem d_6_3_1 (e : Nat) : decK e 6 3 1 = .val (dV 1) nH := by kernel_rfl
theorem d_6_3_2 (e : Nat) : decK e 6 3 2 = .val (dV 2) nH := by kernel_rfl
theorem d_6_3_3 (e : Nat) : decK e 6 3 3 = .val (dV 3) nH := by kernel_rfl
theorem d_6_3_4 (e : Nat) : decK e 6 3 4 = .val (dV 4) nH := by kernel_rfl
theorem d_6_3_5 (e : Nat) : decK e 6 3 5 = .val (dV 5) nH := by kernel_rfl
theorem d_6_4_0 (e : Nat) : decK e 6 4 0 = .val (dV 0) nH := by kernel_rfl
theorem d_6_4_1 (e : Nat) : decK e 6 4 1 = .val (dV 1) nH := by kernel_rfl
theorem d_6_4_2 (e : Nat) : decK e 6 4 2 = .val (dV 2) nH := by kernel_rfl
theorem d_6_4_3 (e : Nat) : decK e 6 4 3 = .val (dV 3) nH := by kernel_rfl
theorem d_6_4_4 (e : Nat) : decK e 6 4 4 = .val (dV 4) nH := by kernel_rfl
theorem d_6_4_5 (e : Nat) : decK e 6 4 5 = .val (dV 5) nH := by kernel_rfl
theorem d_6_5_0 (e : Nat) : decK e 6 5 0 = .val (dV 0) nH := by kernel_rfl
theorem d_6_5_1 (e : Nat) : decK e 6 5 1 = .val (dV 1) nH := by kernel_rfl
theorem d_6_5_2 (e : Nat) : decK e 6 5 2 = .val (dV 2) nH := by kernel_rfl
theorem d_6_5_3 (e : Nat) : decK e 6 5 3 = .val (dV 3) nH := by kernel_rfl
theorem d_6_5_4 (e : Nat) : decK e 6 5 4 = .val (dV 4) nH := by kernel_rfl
theorem d_6_5_5 (e : Nat) : decK e 6 5 5 = .val (dV 5) nH := by kernel_rfl
theorem d_6_6_0 (e : Nat) : decK e 6 6 0 = .val (dV 0) nH := by kernel_rfl
theorem d_6_6_1 (e : Nat) : decK e 6 6 1 = .val (dV 1) nH := by kernel_rfl
theorem d_6_6_2 (e : Nat) : decK e 6 6 2 = .val (dV 2) nH := by kernel_rfl
theorem d_6_6_3 (e : Nat) : decK e 6 6 3 = .val (dV 3) nH := by kernel_rfl
theorem d_6_6_4 (e : Nat) : decK e 6 6 4 = .val (dV 4) nH := by kernel_rfl
theorem d_6_6_5 (e : Nat) : decK e 6 6 5 = .val (dV 5) nH := by kernel_rfl
end
end Go.Ev.Aw
