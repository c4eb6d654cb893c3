/- A part of the proof of TopShares: for every row of weights the law returns true, and the row reads as before. No condition beyond the statement's own. -/
import Derived.Test.YtlhpdegoglgdpaaGreatDoorTsA
import Derived.BigQuiet
set_option linter.all false
set_option linter.unusedVariables false
set_option linter.unusedSimpArgs false
set_option linter.constructorNameAsVariable false
set_option linter.deprecated false
namespace Go.Ev.Aw
noncomputable section
open Go Go.Proofs
theorem pre_7_1 (e : Nat) : preK e 7 (lawsP 7 1) [0, 6, 9] = .done .normal (preT 7) [] (preB 7 1) := by kernel_rfl
theorem pre_7_2 (e : Nat) : preK e 7 (lawsP 7 2) [0, 6, 9] = .done .normal (preT 7) [] (preB 7 2) := by kernel_rfl
theorem pre_7_3 (e : Nat) : preK e 7 (lawsP 7 3) [0, 6, 9] = .done .normal (preT 7) [] (preB 7 3) := by kernel_rfl
theorem pre_7_4 (e : Nat) : preK e 7 (lawsP 7 4) [0, 6, 9] = .done .normal (preT 7) [] (preB 7 4) := by kernel_rfl
theorem pre_7_5 (e : Nat) : preK e 7 (lawsP 7 5) [0, 6, 9] = .done .normal (preT 7) [] (preB 7 5) := by kernel_rfl
theorem pre_7_6 (e : Nat) : preK e 7 (lawsP 7 6) [0, 6, 9] = .done .normal (preT 7) [] (preB 7 6) := by kernel_rfl
theorem pre_7_7 (e : Nat) : preK e 7 (lawsP 7 7) [0, 6, 9] = .done .normal (preT 7) [] (preB 7 7) := by kernel_rfl
theorem e_7_0_true (e : Nat) : preK e 7 (lawsE 0 true) [2] = .done .ret endT [] [] := by kernel_rfl
theorem e_7_0_false (e : Nat) : preK e 7 (lawsE 0 false) [2] = .done .ret endT [] [] := by kernel_rfl
theorem e_7_1_true (e : Nat) : preK e 7 (lawsE 1 true) [2] = .done .ret endT [] [] := by kernel_rfl
theorem e_7_1_false (e : Nat) : preK e 7 (lawsE 1 false) [2] = .done .ret endT [] [] := by kernel_rfl
theorem e_7_2_true (e : Nat) : preK e 7 (lawsE 2 true) [2] = .done .ret endT [] [] := by kernel_rfl
theorem e_7_2_false (e : Nat) : preK e 7 (lawsE 2 false) [2] = .done .ret endT [] [] := by kernel_rfl
theorem e_7_3_true (e : Nat) : preK e 7 (lawsE 3 true) [2] = .done .ret endT [] [] := by kernel_rfl
theorem e_7_3_false (e : Nat) : preK e 7 (lawsE 3 false) [2] = .done .ret endT [] [] := by kernel_rfl
theorem e_7_4_true (e : Nat) : preK e 7 (lawsE 4 true) [2] = .done .ret endT [] [] := by kernel_rfl
theorem e_7_4_false (e : Nat) : preK e 7 (lawsE 4 false) [2] = .done .ret endT [] [] := by kernel_rfl
theorem e_7_5_true (e : Nat) : preK e 7 (lawsE 5 true) [2] = .done .ret endT [] [] := by kernel_rfl
theorem e_7_5_false (e : Nat) : preK e 7 (lawsE 5 false) [2] = .done .ret endT [] [] := by kernel_rfl
theorem e_7_6_true (e : Nat) : preK e 7 (lawsE 6 true) [2] = .done .ret endT [] [] := by kernel_rfl
theorem e_7_6_false (e : Nat) : preK e 7 (lawsE 6 false) [2] = .done .ret endT [] [] := by kernel_rfl
theorem u_7 (e : Nat) : preK e 7 (lawsS 7) [2] = .done .ret endT [] [] := by kernel_rfl
theorem pre_8_1 (e : Nat) : preK e 8 (lawsP 8 1) [0, 6, 9] = .done .normal (preT 8) [] (preB 8 1) := by kernel_rfl
theorem pre_8_2 (e : Nat) : preK e 8 (lawsP 8 2) [0, 6, 9] = .done .normal (preT 8) [] (preB 8 2) := by kernel_rfl
theorem pre_8_3 (e : Nat) : preK e 8 (lawsP 8 3) [0, 6, 9] = .done .normal (preT 8) [] (preB 8 3) := by kernel_rfl
theorem pre_8_4 (e : Nat) : preK e 8 (lawsP 8 4) [0, 6, 9] = .done .normal (preT 8) [] (preB 8 4) := by kernel_rfl
theorem pre_8_5 (e : Nat) : preK e 8 (lawsP 8 5) [0, 6, 9] = .done .normal (preT 8) [] (preB 8 5) := by kernel_rfl
theorem pre_8_6 (e : Nat) : preK e 8 (lawsP 8 6) [0, 6, 9] = .done .normal (preT 8) [] (preB 8 6) := by kernel_rfl
theorem pre_8_7 (e : Nat) : preK e 8 (lawsP 8 7) [0, 6, 9] = .done .normal (preT 8) [] (preB 8 7) := by kernel_rfl
theorem pre_8_8 (e : Nat) : preK e 8 (lawsP 8 8) [0, 6, 9] = .done .normal (preT 8) [] (preB 8 8) := by kernel_rfl
theorem e_8_0_true (e : Nat) : preK e 8 (lawsE 0 true) [2] = .done .ret endT [] [] := by kernel_rfl
theorem e_8_0_false (e : Nat) : preK e 8 (lawsE 0 false) [2] = .done .ret endT [] [] := by kernel_rfl
theorem e_8_1_true (e : Nat) : preK e 8 (lawsE 1 true) [2] = .done .ret endT [] [] := by kernel_rfl
theorem e_8_1_false (e : Nat) : preK e 8 (lawsE 1 false) [2] = .done .ret endT [] [] := by kernel_rfl
theorem e_8_2_true (e : Nat) : preK e 8 (lawsE 2 true) [2] = .done .ret endT [] [] := by kernel_rfl
theorem e_8_2_false (e : Nat) : preK e 8 (lawsE 2 false) [2] = .done .ret endT [] [] := by kernel_rfl
theorem e_8_3_true (e : Nat) : preK e 8 (lawsE 3 true) [2] = .done .ret endT [] [] := by kernel_rfl
theorem e_8_3_false (e : Nat) : preK e 8 (lawsE 3 false) [2] = .done .ret endT [] [] := by kernel_rfl
theorem e_8_4_true (e : Nat) : preK e 8 (lawsE 4 true) [2] = .done .ret endT [] [] := by kernel_rfl
theorem e_8_4_false (e : Nat) : preK e 8 (lawsE 4 false) [2] = .done .ret endT [] [] := by kernel_rfl
theorem e_8_5_true (e : Nat) : preK e 8 (lawsE 5 true) [2] = .done .ret endT [] [] := by kernel_rfl
theorem e_8_5_false (e : Nat) : preK e 8 (lawsE 5 false) [2] = .done .ret endT [] [] := by kernel_rfl
theorem e_8_6_true (e : Nat) : preK e 8 (lawsE 6 true) [2] = .done .ret endT [] [] := by kernel_rfl
theorem e_8_6_false (e : Nat) : preK e 8 (lawsE 6 false) [2] = .done .ret endT [] [] := by kernel_rfl
theorem e_8_7_true (e : Nat) : preK e 8 (lawsE 7 true) [2] = .done .ret endT [] [] := by kernel_rfl
theorem e_8_7_false (e : Nat) : preK e 8 (lawsE 7 false) [2] = .done .ret endT [] [] := by kernel_rfl
theorem u_8 (e : Nat) : preK e 8 (lawsS 8) [2] = .done .ret endT [] [] := by kernel_rfl
end
end Go.Ev.Aw
