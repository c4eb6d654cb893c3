/- A part of the proof of TopShares: for every row of weights the law returns true, and the row reads as before. No condition beyond the statement's own. -/
import Derived.Test.YtlhpdegoglgdpaaGreatDoorTsA
import Derived.BigQuiet
set_option linter.all false
set_option linter.unusedVariables false
set_option linter.unusedSimpArgs false
set_option linter.constructorNameAsVariable false
set_option linter.deprecated false
namespace Go.Ev.Aw
noncomputable section
open Go Go.Proofs
theorem pre_1_1 (e : Nat) : preK e 1 (lawsP 1 1) [0, 6, 9] = .done .normal (preT 1) [] (preB 1 1) := by kernel_rfl
theorem e_1_0_true (e : Nat) : preK e 1 (lawsE 0 true) [2] = .done .ret endT [] [] := by kernel_rfl
theorem e_1_0_false (e : Nat) : preK e 1 (lawsE 0 false) [2] = .done .ret endT [] [] := by kernel_rfl
theorem u_1 (e : Nat) : preK e 1 (lawsS 1) [2] = .done .ret endT [] [] := by kernel_rfl
theorem pre_2_1 (e : Nat) : preK e 2 (lawsP 2 1) [0, 6, 9] = .done .normal (preT 2) [] (preB 2 1) := by kernel_rfl
theorem pre_2_2 (e : Nat) : preK e 2 (lawsP 2 2) [0, 6, 9] = .done .normal (preT 2) [] (preB 2 2) := by kernel_rfl
theorem e_2_0_true (e : Nat) : preK e 2 (lawsE 0 true) [2] = .done .ret endT [] [] := by kernel_rfl
theorem e_2_0_false (e : Nat) : preK e 2 (lawsE 0 false) [2] = .done .ret endT [] [] := by kernel_rfl
theorem e_2_1_true (e : Nat) : preK e 2 (lawsE 1 true) [2] = .done .ret endT [] [] := by kernel_rfl
theorem e_2_1_false (e : Nat) : preK e 2 (lawsE 1 false) [2] = .done .ret endT [] [] := by kernel_rfl
theorem u_2 (e : Nat) : preK e 2 (lawsS 2) [2] = .done .ret endT [] [] := by kernel_rfl
theorem pre_3_1 (e : Nat) : preK e 3 (lawsP 3 1) [0, 6, 9] = .done .normal (preT 3) [] (preB 3 1) := by kernel_rfl
theorem pre_3_2 (e : Nat) : preK e 3 (lawsP 3 2) [0, 6, 9] = .done .normal (preT 3) [] (preB 3 2) := by kernel_rfl
theorem pre_3_3 (e : Nat) : preK e 3 (lawsP 3 3) [0, 6, 9] = .done .normal (preT 3) [] (preB 3 3) := by kernel_rfl
theorem e_3_0_true (e : Nat) : preK e 3 (lawsE 0 true) [2] = .done .ret endT [] [] := by kernel_rfl
theorem e_3_0_false (e : Nat) : preK e 3 (lawsE 0 false) [2] = .done .ret endT [] [] := by kernel_rfl
theorem e_3_1_true (e : Nat) : preK e 3 (lawsE 1 true) [2] = .done .ret endT [] [] := by kernel_rfl
theorem e_3_1_false (e : Nat) : preK e 3 (lawsE 1 false) [2] = .done .ret endT [] [] := by kernel_rfl
theorem e_3_2_true (e : Nat) : preK e 3 (lawsE 2 true) [2] = .done .ret endT [] [] := by kernel_rfl
theorem e_3_2_false (e : Nat) : preK e 3 (lawsE 2 false) [2] = .done .ret endT [] [] := by kernel_rfl
theorem u_3 (e : Nat) : preK e 3 (lawsS 3) [2] = .done .ret endT [] [] := by kernel_rfl
theorem pre_4_1 (e : Nat) : preK e 4 (lawsP 4 1) [0, 6, 9] = .done .normal (preT 4) [] (preB 4 1) := by kernel_rfl
theorem pre_4_2 (e : Nat) : preK e 4 (lawsP 4 2) [0, 6, 9] = .done .normal (preT 4) [] (preB 4 2) := by kernel_rfl
theorem pre_4_3 (e : Nat) : preK e 4 (lawsP 4 3) [0, 6, 9] = .done .normal (preT 4) [] (preB 4 3) := by kernel_rfl
theorem pre_4_4 (e : Nat) : preK e 4 (lawsP 4 4) [0, 6, 9] = .done .normal (preT 4) [] (preB 4 4) := by kernel_rfl
theorem e_4_0_true (e : Nat) : preK e 4 (lawsE 0 true) [2] = .done .ret endT [] [] := by kernel_rfl
theorem e_4_0_false (e : Nat) : preK e 4 (lawsE 0 false) [2] = .done .ret endT [] [] := by kernel_rfl
theorem e_4_1_true (e : Nat) : preK e 4 (lawsE 1 true) [2] = .done .ret endT [] [] := by kernel_rfl
theorem e_4_1_false (e : Nat) : preK e 4 (lawsE 1 false) [2] = .done .ret endT [] [] := by kernel_rfl
theorem e_4_2_true (e : Nat) : preK e 4 (lawsE 2 true) [2] = .done .ret endT [] [] := by kernel_rfl
theorem e_4_2_false (e : Nat) : preK e 4 (lawsE 2 false) [2] = .done .ret endT [] [] := by kernel_rfl
theorem e_4_3_true (e : Nat) : preK e 4 (lawsE 3 true) [2] = .done .ret endT [] [] := by kernel_rfl
theorem e_4_3_false (e : Nat) : preK e 4 (lawsE 3 false) [2] = .done .ret endT [] [] := by kernel_rfl
theorem u_4 (e : Nat) : preK e 4 (lawsS 4) [2] = .done .ret endT [] [] := by kernel_rfl
theorem pre_5_1 (e : Nat) : preK e 5 (lawsP 5 1) [0, 6, 9] = .done .normal (preT 5) [] (preB 5 1) := by kernel_rfl
theorem pre_5_2 (e : Nat) : preK e 5 (lawsP 5 2) [0, 6, 9] = .done .normal (preT 5) [] (preB 5 2) := by kernel_rfl
theorem pre_5_3 (e : Nat) : preK e 5 (lawsP 5 3) [0, 6, 9] = .done .normal (preT 5) [] (preB 5 3) := by kernel_rfl
theorem pre_5_4 (e : Nat) : preK e 5 (lawsP 5 4) [0, 6, 9] = .done .normal (preT 5) [] (preB 5 4) := by kernel_rfl
theorem pre_5_5 (e : Nat) : preK e 5 (lawsP 5 5) [0, 6, 9] = .done .normal (preT 5) [] (preB 5 5) := by kernel_rfl
theorem e_5_0_true (e : Nat) : preK e 5 (lawsE 0 true) [2] = .done .ret endT [] [] := by kernel_rfl
theorem e_5_0_false (e : Nat) : preK e 5 (lawsE 0 false) [2] = .done .ret endT [] [] := by kernel_rfl
theorem e_5_1_true (e : Nat) : preK e 5 (lawsE 1 true) [2] = .done .ret endT [] [] := by kernel_rfl
theorem e_5_1_false (e : Nat) : preK e 5 (lawsE 1 false) [2] = .done .ret endT [] [] := by kernel_rfl
theorem e_5_2_true (e : Nat) : preK e 5 (lawsE 2 true) [2] = .done .ret endT [] [] := by kernel_rfl
theorem e_5_2_false (e : Nat) : preK e 5 (lawsE 2 false) [2] = .done .ret endT [] [] := by kernel_rfl
theorem e_5_3_true (e : Nat) : preK e 5 (lawsE 3 true) [2] = .done .ret endT [] [] := by kernel_rfl
theorem e_5_3_false (e : Nat) : preK e 5 (lawsE 3 false) [2] = .done .ret endT [] [] := by kernel_rfl
theorem e_5_4_true (e : Nat) : preK e 5 (lawsE 4 true) [2] = .done .ret endT [] [] := by kernel_rfl
theorem e_5_4_false (e : Nat) : preK e 5 (lawsE 4 false) [2] = .done .ret endT [] [] := by kernel_rfl
theorem u_5 (e : Nat) : preK e 5 (lawsS 5) [2] = .done .ret endT [] [] := by kernel_rfl
theorem pre_6_1 (e : Nat) : preK e 6 (lawsP 6 1) [0, 6, 9] = .done .normal (preT 6) [] (preB 6 1) := by kernel_rfl
theorem pre_6_2 (e : Nat) : preK e 6 (lawsP 6 2) [0, 6, 9] = .done .normal (preT 6) [] (preB 6 2) := by kernel_rfl
theorem pre_6_3 (e : Nat) : preK e 6 (lawsP 6 3) [0, 6, 9] = .done .normal (preT 6) [] (preB 6 3) := by kernel_rfl
theorem pre_6_4 (e : Nat) : preK e 6 (lawsP 6 4) [0, 6, 9] = .done .normal (preT 6) [] (preB 6 4) := by kernel_rfl
theorem pre_6_5 (e : Nat) : preK e 6 (lawsP 6 5) [0, 6, 9] = .done .normal (preT 6) [] (preB 6 5) := by kernel_rfl
theorem pre_6_6 (e : Nat) : preK e 6 (lawsP 6 6) [0, 6, 9] = .done .normal (preT 6) [] (preB 6 6) := by kernel_rfl
theorem e_6_0_true (e : Nat) : preK e 6 (lawsE 0 true) [2] = .done .ret endT [] [] := by kernel_rfl
theorem e_6_0_false (e : Nat) : preK e 6 (lawsE 0 false) [2] = .done .ret endT [] [] := by kernel_rfl
theorem e_6_1_true (e : Nat) : preK e 6 (lawsE 1 true) [2] = .done .ret endT [] [] := by kernel_rfl
theorem e_6_1_false (e : Nat) : preK e 6 (lawsE 1 false) [2] = .done .ret endT [] [] := by kernel_rfl
theorem e_6_2_true (e : Nat) : preK e 6 (lawsE 2 true) [2] = .done .ret endT [] [] := by kernel_rfl
theorem e_6_2_false (e : Nat) : preK e 6 (lawsE 2 false) [2] = .done .ret endT [] [] := by kernel_rfl
theorem e_6_3_true (e : Nat) : preK e 6 (lawsE 3 true) [2] = .done .ret endT [] [] := by kernel_rfl
theorem e_6_3_false (e : Nat) : preK e 6 (lawsE 3 false) [2] = .done .ret endT [] [] := by kernel_rfl
theorem e_6_4_true (e : Nat) : preK e 6 (lawsE 4 true) [2] = .done .ret endT [] [] := by kernel_rfl
theorem e_6_4_false (e : Nat) : preK e 6 (lawsE 4 false) [2] = .done .ret endT [] [] := by kernel_rfl
theorem e_6_5_true (e : Nat) : preK e 6 (lawsE 5 true) [2] = .done .ret endT [] [] := by kernel_rfl
theorem e_6_5_false (e : Nat) : preK e 6 (lawsE 5 false) [2] = .done .ret endT [] [] := by kernel_rfl
theorem u_6 (e : Nat) : preK e 6 (lawsS 6) [2] = .done .ret endT [] [] := by kernel_rfl
end
end Go.Ev.Aw
