/- A part of the proof of TopShares: for every row of weights the law returns true, and the row reads as before. No condition beyond the statement's own. -/
import Derived.Test.YtlhpdegoglgdpaaGreatDoorTsA
import Derived.BigQuiet
set_option linter.all false
set_option linter.unusedVariables false
set_option linter.unusedSimpArgs false
set_option linter.constructorNameAsVariable false
set_option linter.deprecated false
namespace Go.Ev.Aw
noncomputable section
open Go Go.Proofs
theorem d_7_1_0 (e : Nat) : decK e 7 1 0 = .val (dV 0) nH := by kernel_rfl
theorem d_7_1_1 (e : Nat) : decK e 7 1 1 = .val (dV 1) nH := by kernel_rfl
theorem d_7_1_2 (e : Nat) : decK e 7 1 2 = .val (dV 2) nH := by kernel_rfl
theorem d_7_1_3 (e : Nat) : decK e 7 1 3 = .val (dV 3) nH := by kernel_rfl
theorem d_7_1_4 (e : Nat) : decK e 7 1 4 = .val (dV 4) nH := by kernel_rfl
theorem d_7_1_5 (e : Nat) : decK e 7 1 5 = .val (dV 5) nH := by kernel_rfl
theorem d_7_1_6 (e : Nat) : decK e 7 1 6 = .val (dV 6) nH := by kernel_rfl
theorem d_7_2_0 (e : Nat) : decK e 7 2 0 = .val (dV 0) nH := by kernel_rfl
theorem d_7_2_1 (e : Nat) : decK e 7 2 1 = .val (dV 1) nH := by kernel_rfl
theorem d_7_2_2 (e : Nat) : decK e 7 2 2 = .val (dV 2) nH := by kernel_rfl
theorem d_7_2_3 (e : Nat) : decK e 7 2 3 = .val (dV 3) nH := by kernel_rfl
theorem d_7_2_4 (e : Nat) : decK e 7 2 4 = .val (dV 4) nH := by kernel_rfl
theorem d_7_2_5 (e : Nat) : decK e 7 2 5 = .val (dV 5) nH := by kernel_rfl
theorem d_7_2_6 (e : Nat) : decK e 7 2 6 = .val (dV 6) nH := by kernel_rfl
theorem d_7_3_0 (e : Nat) : decK e 7 3 0 = .val (dV 0) nH := by kernel_rfl
theorem d_7_3_1 (e : Nat) : decK e 7 3 1 = .val (dV 1) nH := by kernel_rfl
theorem d_7_3_2 (e : Nat) : decK e 7 3 2 = .val (dV 2) nH := by kernel_rfl
theorem d_7_3_3 (e : Nat) : decK e 7 3 3 = .val (dV 3) nH := by kernel_rfl
theorem d_7_3_4 (e : Nat) : decK e 7 3 4 = .val (dV 4) nH := by kernel_rfl
theorem d_7_3_5 (e : Nat) : decK e 7 3 5 = .val (dV 5) nH := by kernel_rfl
theorem d_7_3_6 (e : Nat) : decK e 7 3 6 = .val (dV 6) nH := by kernel_rfl
theorem d_7_4_0 (e : Nat) : decK e 7 4 0 = .val (dV 0) nH := by kernel_rfl
theorem d_7_4_1 (e : Nat) : decK e 7 4 1 = .val (dV 1) nH := by kernel_rfl
theorem d_7_4_2 (e : Nat) : decK e 7 4 2 = .val (dV 2) nH := by kernel_rfl
theorem d_7_4_3 (e : Nat) : decK e 7 4 3 = .val (dV 3) nH := by kernel_rfl
theorem d_7_4_4 (e : Nat) : decK e 7 4 4 = .val (dV 4) nH := by kernel_rfl
theorem d_7_4_5 (e : Nat) : decK e 7 4 5 = .val (dV 5) nH := by kernel_rfl
theorem d_7_4_6 (e : Nat) : decK e 7 4 6 = .val (dV 6) nH := by kernel_rfl
theorem d_7_5_0 (e : Nat) : decK e 7 5 0 = .val (dV 0) nH := by kernel_rfl
theorem d_7_5_1 (e : Nat) : decK e 7 5 1 = .val (dV 1) nH := by kernel_rfl
theorem d_7_5_2 (e : Nat) : decK e 7 5 2 = .val (dV 2) nH := by kernel_rfl
theorem d_7_5_3 (e : Nat) : decK e 7 5 3 = .val (dV 3) nH := by kernel_rfl
theorem d_7_5_4 (e : Nat) : decK e 7 5 4 = .val (dV 4) nH := by kernel_rfl
theorem d_7_5_5 (e : Nat) : decK e 7 5 5 = .val (dV 5) nH := by kernel_rfl
theorem d_7_5_6 (e : Nat) : decK e 7 5 6 = .val (dV 6) nH := by kernel_rfl
theorem d_7_6_0 (e : Nat) : decK e 7 6 0 = .val (dV 0) nH := by kernel_rfl
theorem d_7_6_1 (e : Nat) : decK e 7 6 1 = .val (dV 1) nH := by kernel_rfl
theorem d_7_6_2 (e : Nat) : decK e 7 6 2 = .val (dV 2) nH := by kernel_rfl
theorem d_7_6_3 (e : Nat) : decK e 7 6 3 = .val (dV 3) nH := by kernel_rfl
theorem d_7_6_4 (e : Nat) : decK e 7 6 4 = .val (dV 4) nH := by kernel_rfl
theorem d_7_6_5 (e : Nat) : decK e 7 6 5 = .val (dV 5) nH := by kernel_rfl
theorem d_7_6_6 (e : Nat) : decK e 7 6 6 = .val (dV 6) nH := by kernel_rfl
theorem d_7_7_0 (e : Nat) : decK e 7 7 0 = .val (dV 0) nH := by kernel_rfl
theorem d_7_7_1 (e : Nat) : decK e 7 7 1 = .val (dV 1) nH := by kernel_rfl
theorem d_7_7_2 (e : Nat) : decK e 7 7 2 = .val (dV 2) nH := by kernel_rfl
theorem d_7_7_3 (e : Nat) : decK e 7 7 3 = .val (dV 3) nH := by kernel_rfl
theorem d_7_7_4 (e : Nat) : decK e 7 7 4 = .val (dV 4) nH := by kernel_rfl
theorem d_7_7_5 (e : Nat) : decK e 7 7 5 = .val (dV 5) nH := by kernel_rfl
theorem d_7_7_6 (e : Nat) : decK e 7 7 6 = .val (dV 6) nH := by kernel_rfl
end
end Go.Ev.Aw
