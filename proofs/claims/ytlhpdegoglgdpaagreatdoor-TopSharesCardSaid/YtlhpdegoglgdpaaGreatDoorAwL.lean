/- A part of the proof of TopShares: for every row of weights the law returns true, and the row reads as before. No condition beyond the statement's own. -/
import Derived.Test.YtlhpdegoglgdpaaGreatDoorAwS
import Derived.BigQuiet
set_option linter.all false
set_option linter.unusedVariables false
set_option linter.unusedSimpArgs false
set_option linter.constructorNameAsVariable false
set_option linter.deprecated false
namespace Go.Ev.Aw
noncomputable section
open Go Go.Proofs
theorem l0 : mergeK s0.bs t0 10 (fun t m => run G 1000000 ⟨93, false, c4_0⟩ s0.tr ⟨t, m, [], 10⟩ (gcF s0.keep)) = .done .normal s1.tr s1.keep s1.bs := by kernel_rfl
theorem l1 : mergeK s1.bs t0 10 (fun t m => run G 1000000 ⟨93, false, c4_10⟩ s1.tr ⟨t, m, [], 10⟩ (gcF s1.keep)) = .done .normal s2.tr s2.keep s2.bs := by kernel_rfl
theorem l2 : mergeK s2.bs t0 10 (fun t m => run G 1000000 ⟨93, false, c4_1100⟩ s2.tr ⟨t, m, [], 10⟩ (gcF s2.keep)) = .done .normal s3.tr s3.keep s3.bs := by kernel_rfl
theorem l3 : mergeK s3.bs t0 10 (fun t m => run G 1000000 ⟨93, false, c4_1101⟩ s3.tr ⟨t, m, [], 10⟩ (gcF s3.keep)) = .done .normal s4.tr s4.keep s4.bs := by kernel_rfl
theorem l5 : mergeK s5.bs t0 10 (fun t m => run G 1000000 ⟨66, false, c9_0⟩ s5.tr ⟨t, m, [], 10⟩ (gcF s5.keep)) = .done .normal s6.tr s6.keep s6.bs := by kernel_rfl
theorem l6 : mergeK s6.bs t0 10 (fun t m => run G 1000000 ⟨66, false, c9_10⟩ s6.tr ⟨t, m, [], 10⟩ (gcF s6.keep)) = .done .normal s7.tr s7.keep s7.bs := by kernel_rfl
theorem l7 : mergeK s7.bs t0 10 (fun t m => run G 1000000 ⟨66, false, c9_110⟩ s7.tr ⟨t, m, [], 10⟩ (gcF s7.keep)) = .done .normal s8.tr s8.keep s8.bs := by kernel_rfl
theorem l8 : mergeK s8.bs t0 10 (fun t m => run G 1000000 ⟨66, false, c9_1110⟩ s8.tr ⟨t, m, [], 10⟩ (gcF s8.keep)) = .done .normal s9.tr s9.keep s9.bs := by kernel_rfl
theorem l9 : mergeK s10.bs t0 10 (fun t m => run G 1000000 ⟨73, false, c46_0⟩ s10.tr ⟨t, m, [], 10⟩ (gcF s10.keep)) = .done .normal s11.tr s11.keep s11.bs := by kernel_rfl
theorem l10 : mergeK s11.bs t0 10 (fun t m => run G 1000000 ⟨73, false, c46_10⟩ s11.tr ⟨t, m, [], 10⟩ (gcF s11.keep)) = .done .normal s12.tr s12.keep s12.bs := by kernel_rfl
theorem l11 : mergeK s12.bs t0 10 (fun t m => run G 1000000 ⟨73, false, c46_110⟩ s12.tr ⟨t, m, [], 10⟩ (gcF s12.keep)) = .done .normal s13.tr s13.keep s13.bs := by kernel_rfl
theorem l12 : mergeK s13.bs t0 10 (fun t m => run G 1000000 ⟨73, false, c46_1110⟩ s13.tr ⟨t, m, [], 10⟩ (gcF s13.keep)) = .done .normal s14.tr s14.keep s14.bs := by kernel_rfl
theorem l26 : mergeK s19.bs t0 10 (fun t m => run G 1000000 ⟨47, false, c11_0⟩ s19.tr ⟨t, m, [], 10⟩ (gcF s19.keep)) = .done .normal s20.tr s20.keep s20.bs := by kernel_rfl
theorem l28 : mergeK s21.bs t0 10 (fun t m => run G 1000000 ⟨47, false, c11_1000⟩ s21.tr ⟨t, m, [], 10⟩ (gcF s21.keep)) = .done .normal s22.tr s22.keep s22.bs := by kernel_rfl
theorem l29 : mergeK s22.bs t0 10 (fun t m => run G 1000000 ⟨47, false, c11_1001000⟩ s22.tr ⟨t, m, [], 10⟩ (gcF s22.keep)) = .done .normal s23.tr s23.keep s23.bs := by kernel_rfl
theorem l36 : mergeK s25.bs t0 10 (fun t m => run G 1000000 ⟨47, false, c11_10011⟩ s25.tr ⟨t, m, [], 10⟩ (gcF s25.keep)) = .done .normal s26.tr s26.keep s26.bs := by kernel_rfl
theorem l45 : mergeK s28.bs t0 10 (fun t m => run G 1000000 ⟨93, false, c4_111110⟩ s28.tr ⟨t, m, [], 10⟩ (gcF s28.keep)) = .done .normal s29.tr s29.keep s29.bs := by kernel_rfl
theorem l46 : mergeK s29.bs t0 10 (fun t m => run G 1000000 ⟨93, false, c4_1111110⟩ s29.tr ⟨t, m, [], 10⟩ (gcF s29.keep)) = .done .normal s30.tr s30.keep s30.bs := by kernel_rfl
theorem l48 : mergeK s31.bs t0 10 (fun t m => run G 1000000 ⟨93, false, c4_111111110⟩ s31.tr ⟨t, m, [], 10⟩ (gcF s31.keep)) = .done .normal s32.tr s32.keep s32.bs := by kernel_rfl
theorem l50 : mergeK s33.bs t0 10 (fun t m => run G 1000000 ⟨93, false, c4_11111111110⟩ s33.tr ⟨t, m, [], 10⟩ (gcF s33.keep)) = .done .normal s34.tr s34.keep s34.bs := by kernel_rfl
theorem l51 : mergeK s34.bs t0 10 (fun t m => run G 1000000 ⟨93, false, c4_111111111110⟩ s34.tr ⟨t, m, [], 10⟩ (gcF s34.keep)) = .done .normal s35.tr s35.keep s35.bs := by kernel_rfl
theorem l52 : mergeK s35.bs t0 10 (fun t m => run G 1000000 ⟨93, false, c4_1111111111110⟩ s35.tr ⟨t, m, [], 10⟩ (gcF s35.keep)) = .done .normal s36.tr s36.keep s36.bs := by kernel_rfl
theorem l53 : mergeK s36.bs t0 10 (fun t m => run G 1000000 ⟨93, false, c4_1111111111111⟩ s36.tr ⟨t, m, [], 10⟩ (gcF s36.keep)) = .done .ret s37.tr s37.keep s37.bs := by kernel_rfl
end
end Go.Ev.Aw
