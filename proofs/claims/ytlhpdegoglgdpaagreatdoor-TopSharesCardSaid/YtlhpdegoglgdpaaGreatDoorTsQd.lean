/- A part of the proof of TopShares: for every row of weights the law returns true, and the row reads as before. No condition beyond the statement's own. -/
import Derived.Test.YtlhpdegoglgdpaaGreatDoorTsA
import Derived.BigQuiet
set_option linter.all false
set_option linter.unusedVariables false
set_option linter.unusedSimpArgs false
set_option linter.constructorNameAsVariable false
set_option linter.deprecated false
namespace Go.Ev.Aw
noncomputable section
open Go Go.Proofs
theorem d_8_1_0 (e : Nat) : decK e 8 1 0 = .val (dV 0) nH := by kernel_rfl
theorem d_8_1_1 (e : Nat) : decK e 8 1 1 = .val (dV 1) nH := by kernel_rfl
theorem d_8_1_2 (e : Nat) : decK e 8 1 2 = .val (dV 2) nH := by kernel_rfl
theorem d_8_1_3 (e : Nat) : decK e 8 1 3 = .val (dV 3) nH := by kernel_rfl
theorem d_8_1_4 (e : Nat) : decK e 8 1 4 = .val (dV 4) nH := by kernel_rfl
theorem d_8_1_5 (e : Nat) : decK e 8 1 5 = .val (dV 5) nH := by kernel_rfl
theorem d_8_1_6 (e : Nat) : decK e 8 1 6 = .val (dV 6) nH := by kernel_rfl
theorem d_8_1_7 (e : Nat) : decK e 8 1 7 = .val (dV 7) nH := by kernel_rfl
theorem d_8_2_0 (e : Nat) : decK e 8 2 0 = .val (dV 0) nH := by kernel_rfl
theorem d_8_2_1 (e : Nat) : decK e 8 2 1 = .val (dV 1) nH := by kernel_rfl
theorem d_8_2_2 (e : Nat) : decK e 8 2 2 = .val (dV 2) nH := by kernel_rfl
theorem d_8_2_3 (e : Nat) : decK e 8 2 3 = .val (dV 3) nH := by kernel_rfl
theorem d_8_2_4 (e : Nat) : decK e 8 2 4 = .val (dV 4) nH := by kernel_rfl
theorem d_8_2_5 (e : Nat) : decK e 8 2 5 = .val (dV 5) nH := by kernel_rfl
theorem d_8_2_6 (e : Nat) : decK e 8 2 6 = .val (dV 6) nH := by kernel_rfl
theorem d_8_2_7 (e : Nat) : decK e 8 2 7 = .val (dV 7) nH := by kernel_rfl
theorem d_8_3_0 (e : Nat) : decK e 8 3 0 = .val (dV 0) nH := by kernel_rfl
theorem d_8_3_1 (e : Nat) : decK e 8 3 1 = .val (dV 1) nH := by kernel_rfl
theorem d_8_3_2 (e : Nat) : decK e 8 3 2 = .val (dV 2) nH := by kernel_rfl
theorem d_8_3_3 (e : Nat) : decK e 8 3 3 = .val (dV 3) nH := by kernel_rfl
theorem d_8_3_4 (e : Nat) : decK e 8 3 4 = .val (dV 4) nH := by kernel_rfl
theorem d_8_3_5 (e : Nat) : decK e 8 3 5 = .val (dV 5) nH := by kernel_rfl
theorem d_8_3_6 (e : Nat) : decK e 8 3 6 = .val (dV 6) nH := by kernel_rfl
theorem d_8_3_7 (e : Nat) : decK e 8 3 7 = .val (dV 7) nH := by kernel_rfl
theorem d_8_4_0 (e : Nat) : decK e 8 4 0 = .val (dV 0) nH := by kernel_rfl
theorem d_8_4_1 (e : Nat) : decK e 8 4 1 = .val (dV 1) nH := by kernel_rfl
theorem d_8_4_2 (e : Nat) : decK e 8 4 2 = .val (dV 2) nH := by kernel_rfl
theorem d_8_4_3 (e : Nat) : decK e 8 4 3 = .val (dV 3) nH := by kernel_rfl
theorem d_8_4_4 (e : Nat) : decK e 8 4 4 = .val (dV 4) nH := by kernel_rfl
theorem d_8_4_5 (e : Nat) : decK e 8 4 5 = .val (dV 5) nH := by kernel_rfl
theorem d_8_4_6 (e : Nat) : decK e 8 4 6 = .val (dV 6) nH := by kernel_rfl
theorem d_8_4_7 (e : Nat) : decK e 8 4 7 = .val (dV 7) nH := by kernel_rfl
theorem d_8_5_0 (e : Nat) : decK e 8 5 0 = .val (dV 0) nH := by kernel_rfl
theorem d_8_5_1 (e : Nat) : decK e 8 5 1 = .val (dV 1) nH := by kernel_rfl
theorem d_8_5_2 (e : Nat) : decK e 8 5 2 = .val (dV 2) nH := by kernel_rfl
theorem d_8_5_3 (e : Nat) : decK e 8 5 3 = .val (dV 3) nH := by kernel_rfl
theorem d_8_5_4 (e : Nat) : decK e 8 5 4 = .val (dV 4) nH := by kernel_rfl
theorem d_8_5_5 (e : Nat) : decK e 8 5 5 = .val (dV 5) nH := by kernel_rfl
theorem d_8_5_6 (e : Nat) : decK e 8 5 6 = .val (dV 6) nH := by kernel_rfl
theorem d_8_5_7 (e : Nat) : decK e 8 5 7 = .val (dV 7) nH := by kernel_rfl
theorem d_8_6_0 (e : Nat) : decK e 8 6 0 = .val (dV 0) nH := by kernel_rfl
theorem d_8_6_1 (e : Nat) : decK e 8 6 1 = .val (dV 1) nH := by kernel_rfl
theorem d_8_6_2 (e : Nat) : decK e 8 6 2 = .val (dV 2) nH := by kernel_rfl
theorem d_8_6_3 (e : Nat) : decK e 8 6 3 = .val (dV 3) nH := by kernel_rfl
theorem d_8_6_4 (e : Nat) : decK e 8 6 4 = .val (dV 4) nH := by kernel_rfl
theorem d_8_6_5 (e : Nat) : decK e 8 6 5 = .val (dV 5) nH := by kernel_rfl
theorem d_8_6_6 (e : Nat) : decK e 8 6 6 = .val (dV 6) nH := by kernel_rfl
theorem d_8_6_7 (e : Nat) : decK e 8 6 7 = .val (dV 7) nH := by kernel_rfl
theorem d_8_7_0 (e : Nat) : decK e 8 7 0 = .val (dV 0) nH := by kernel_rfl
theorem d_8_7_1 (e : Nat) : decK e 8 7 1 = .val (dV 1) nH := by kernel_rfl
theorem d_8_7_2 (e : Nat) : decK e 8 7 2 = .val (dV 2) nH := by kernel_rfl
theorem d_8_7_3 (e : Nat) : decK e 8 7 3 = .val (dV 3) nH := by kernel_rfl
theorem d_8_7_4 (e : Nat) : decK e 8 7 4 = .val (dV 4) nH := by kernel_rfl
theorem d_8_7_5 (e : Nat) : decK e 8 7 5 = .val (dV 5) nH := by kernel_rfl
theorem d_8_7_6 (e : Nat) : decK e 8 7 6 = .val (dV 6) nH := by kernel_rfl
theorem d_8_7_7 (e : Nat) : decK e 8 7 7 = .val (dV 7) nH := by kernel_rfl
theorem d_8_8_0 (e : Nat) : decK e 8 8 0 = .val (dV 0) nH := by kernel_rfl
theorem d_8_8_1 (e : Nat) : decK e 8 8 1 = .val (dV 1) nH := by kernel_rfl
theorem d_8_8_2 (e : Nat) : decK e 8 8 2 = .val (dV 2) nH := by kernel_rfl
theorem d_8_8_3 (e : Nat) : decK e 8 8 3 = .val (dV 3) nH := by kernel_rfl
theorem d_8_8_4 (e : Nat) : decK e 8 8 4 = .val (dV 4) nH := by kernel_rfl
theorem d_8_8_5 (e : Nat) : decK e 8 8 5 = .val (dV 5) nH := by kernel_rfl
theorem d_8_8_6 (e : Nat) : decK e 8 8 6 = .val (dV 6) nH := by kernel_rfl
theorem d_8_8_7 (e : Nat) : decK e 8 8 7 = .val (dV 7) nH := by kernel_rfl
end
end Go.Ev.Aw
