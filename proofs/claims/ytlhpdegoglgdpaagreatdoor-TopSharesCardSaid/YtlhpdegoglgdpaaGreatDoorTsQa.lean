/- A part of the proof of TopShares: for every row of weights the law returns true, and the row reads as before. No condition beyond the statement's own. -/
import Derived.Test.YtlhpdegoglgdpaaGreatDoorTsA
import Derived.BigQuiet
set_option linter.all false
set_option linter.unusedVariables false
set_option linter.unusedSimpArgs false
set_option linter.constructorNameAsVariable false
set_option linter.deprecated false
namespace Go.Ev.Aw
noncomputable section
open Go Go.Proofs
theorem d_1_1_0 (e : Nat) : decK e 1 1 0 = .val (dV 0) nH := by kernel_rfl
theorem d_2_1_0 (e : Nat) : decK e 2 1 0 = .val (dV 0) nH := by kernel_rfl
theorem d_2_1_1 (e : Nat) : decK e 2 1 1 = .val (dV 1) nH := by kernel_rfl
theorem d_2_2_0 (e : Nat) : decK e 2 2 0 = .val (dV 0) nH := by kernel_rfl
theorem d_2_2_1 (e : Nat) : decK e 2 2 1 = .val (dV 1) nH := by kernel_rfl
theorem d_3_1_0 (e : Nat) : decK e 3 1 0 = .val (dV 0) nH := by kernel_rfl
theorem d_3_1_1 (e : Nat) : decK e 3 1 1 = .val (dV 1) nH := by kernel_rfl
theorem d_3_1_2 (e : Nat) : decK e 3 1 2 = .val (dV 2) nH := by kernel_rfl
theorem d_3_2_0 (e : Nat) : decK e 3 2 0 = .val (dV 0) nH := by kernel_rfl
theorem d_3_2_1 (e : Nat) : decK e 3 2 1 = .val (dV 1) nH := by kernel_rfl
theorem d_3_2_2 (e : Nat) : decK e 3 2 2 = .val (dV 2) nH := by kernel_rfl
theorem d_3_3_0 (e : Nat) : decK e 3 3 0 = .val (dV 0) nH := by kernel_rfl
theorem d_3_3_1 (e : Nat) : decK e 3 3 1 = .val (dV 1) nH := by kernel_rfl
theorem d_3_3_2 (e : Nat) : decK e 3 3 2 = .val (dV 2) nH := by kernel_rfl
theorem d_4_1_0 (e : Nat) : decK e 4 1 0 = .val (dV 0) nH := by kernel_rfl
theorem d_4_1_1 (e : Nat) : decK e 4 1 1 = .val (dV 1) nH := by kernel_rfl
theorem d_4_1_2 (e : Nat) : decK e 4 1 2 = .val (dV 2) nH := by kernel_rfl
theorem d_4_1_3 (e : Nat) : decK e 4 1 3 = .val (dV 3) nH := by kernel_rfl
theorem d_4_2_0 (e : Nat) : decK e 4 2 0 = .val (dV 0) nH := by kernel_rfl
theorem d_4_2_1 (e : Nat) : decK e 4 2 1 = .val (dV 1) nH := by kernel_rfl
theorem d_4_2_2 (e : Nat) : decK e 4 2 2 = .val (dV 2) nH := by kernel_rfl
theorem d_4_2_3 (e : Nat) : decK e 4 2 3 = .val (dV 3) nH := by kernel_rfl
theorem d_4_3_0 (e : Nat) : decK e 4 3 0 = .val (dV 0) nH := by kernel_rfl
theorem d_4_3_1 (e : Nat) : decK e 4 3 1 = .val (dV 1) nH := by kernel_rfl
theorem d_4_3_2 (e : Nat) : decK e 4 3 2 = .val (dV 2) nH := by kernel_rfl
theorem d_4_3_3 (e : Nat) : decK e 4 3 3 = .val (dV 3) nH := by kernel_rfl
theorem d_4_4_0 (e : Nat) : decK e 4 4 0 = .val (dV 0) nH := by kernel_rfl
theorem d_4_4_1 (e : Nat) : decK e 4 4 1 = .val (dV 1) nH := by kernel_rfl
theorem d_4_4_2 (e : Nat) : decK e 4 4 2 = .val (dV 2) nH := by kernel_rfl
theorem d_4_4_3 (e : Nat) : decK e 4 4 3 = .val (dV 3) nH := by kernel_rfl
theorem d_5_1_0 (e : Nat) : decK e 5 1 0 = .val (dV 0) nH := by kernel_rfl
theorem d_5_1_1 (e : Nat) : decK e 5 1 1 = .val (dV 1) nH := by kernel_rfl
theorem d_5_1_2 (e : Nat) : decK e 5 1 2 = .val (dV 2) nH := by kernel_rfl
theorem d_5_1_3 (e : Nat) : decK e 5 1 3 = .val (dV 3) nH := by kernel_rfl
theorem d_5_1_4 (e : Nat) : decK e 5 1 4 = .val (dV 4) nH := by kernel_rfl
theorem d_5_2_0 (e : Nat) : decK e 5 2 0 = .val (dV 0) nH := by kernel_rfl
theorem d_5_2_1 (e : Nat) : decK e 5 2 1 = .val (dV 1) nH := by kernel_rfl
theorem d_5_2_2 (e : Nat) : decK e 5 2 2 = .val (dV 2) nH := by kernel_rfl
theorem d_5_2_3 (e : Nat) : decK e 5 2 3 = .val (dV 3) nH := by kernel_rfl
theorem d_5_2_4 (e : Nat) : decK e 5 2 4 = .val (dV 4) nH := by kernel_rfl
theorem d_5_3_0 (e : Nat) : decK e 5 3 0 = .val (dV 0) nH := by kernel_rfl
theorem d_5_3_1 (e : Nat) : decK e 5 3 1 = .val (dV 1) nH := by kernel_rfl
theorem d_5_3_2 (e : Nat) : decK e 5 3 2 = .val (dV 2) nH := by kernel_rfl
theorem d_5_3_3 (e : Nat) : decK e 5 3 3 = .val (dV 3) nH := by kernel_rfl
theorem d_5_3_4 (e : Nat) : decK e 5 3 4 = .val (dV 4) nH := by kernel_rfl
theorem d_5_4_0 (e : Nat) : decK e 5 4 0 = .val (dV 0) nH := by kernel_rfl
theorem d_5_4_1 (e : Nat) : decK e 5 4 1 = .val (dV 1) nH := by kernel_rfl
theorem d_5_4_2 (e : Nat) : decK e 5 4 2 = .val (dV 2) nH := by kernel_rfl
theorem d_5_4_3 (e : Nat) : decK e 5 4 3 = .val (dV 3) nH := by kernel_rfl
theorem d_5_4_4 (e : Nat) : decK e 5 4 4 = .val (dV 4) nH := by kernel_rfl
theorem d_5_5_0 (e : Nat) : decK e 5 5 0 = .val (dV 0) nH := by kernel_rfl
theorem d_5_5_1 (e : Nat) : decK e 5 5 1 = .val (dV 1) nH := by kernel_rfl
theorem d_5_5_2 (e : Nat) : decK e 5 5 2 = .val (dV 2) nH := by kernel_rfl
theorem d_5_5_3 (e : Nat) : decK e 5 5 3 = .val (dV 3) nH := by kernel_rfl
theorem d_5_5_4 (e : Nat) : decK e 5 5 4 = .val (dV 4) nH := by kernel_rfl
end
end Go.Ev.Aw
