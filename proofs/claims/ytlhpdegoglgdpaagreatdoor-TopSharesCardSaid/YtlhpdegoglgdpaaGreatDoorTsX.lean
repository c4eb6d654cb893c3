/- A part of the proof of TopShares: for every row of weights the law returns true, and the row reads as before. No condition beyond the statement's own. -/
import Derived.Test.YtlhpdegoglgdpaaGreatDoorTsPa
import Derived.Test.YtlhpdegoglgdpaaGreatDoorTsPb
import Derived.Test.YtlhpdegoglgdpaaGreatDoorTsQa
import Derived.Test.YtlhpdegoglgdpaaGreatDoorTsQb
import Derived.Test.YtlhpdegoglgdpaaGreatDoorTsQc
import Derived.Test.YtlhpdegoglgdpaaGreatDoorTsQd
import Derived.Test.YtlhpdegoglgdpaaGreatDoorTsA
import Derived.Test.YtlhpdegoglgdpaaGreatDoorTsT
set_option linter.all false
set_option linter.unusedVariables false
set_option linter.unusedSimpArgs false
set_option linter.constructorNameAsVariable false
set_option linter.deprecated false
namespace Go.Ev.Aw
noncomputable section
open Go Go.Proofs
theorem e_all (e n j : Nat) (lo : Bool) (h1 : j < n) (h2 : n ≤ 8) : preK e n (lawsE j lo) [2] = .done .ret endT [] [] := by
  have hn : n = 1 ∨ n = 2 ∨ n = 3 ∨ n = 4 ∨ n = 5 ∨ n = 6 ∨ n = 7 ∨ n = 8 := by omega
  rcases hn with rfl | rfl | rfl | rfl | rfl | rfl | rfl | rfl
  · have hj : j = 0 := by omega
    rcases hj with rfl <;> cases lo
    · exact e_1_0_false e
    · exact e_1_0_true e
  · have hj : j = 0 ∨ j = 1 := by omega
    rcases hj with rfl | rfl <;> cases lo
    · exact e_2_0_false e
    · exact e_2_0_true e
    · exact e_2_1_false e
    · exact e_2_1_true e
  · have hj : j = 0 ∨ j = 1 ∨ j = 2 := by omega
    rcases hj with rfl | rfl | rfl <;> cases lo
    · exact e_3_0_false e
    · exact e_3_0_true e
    · exact e_3_1_false e
    · exact e_3_1_true e
    · exact e_3_2_false e
    · exact e_3_2_true e
  · have hj : j = 0 ∨ j = 1 ∨ j = 2 ∨ j = 3 := by omega
    rcases hj with rfl | rfl | rfl | rfl <;> cases lo
    · exact e_4_0_false e
    · exact e_4_0_true e
    · exact e_4_1_false e
    · exact e_4_1_true e
    · exact e_4_2_false e
    · exact e_4_2_true e
    · exact e_4_3_false e
    · exact e_4_3_true e
  · have hj : j = 0 ∨ j = 1 ∨ j = 2 ∨ j = 3 ∨ j = 4 := by omega
    rcases hj with rfl | rfl | rfl | rfl | rfl <;> cases lo
    · exact e_5_0_false e
    · exact e_5_0_true e
    · exact e_5_1_false e
    · exact e_5_1_true e
    · exact e_5_2_false e
    · exact e_5_2_true e
    · exact e_5_3_false e
    · exact e_5_3_true e
    · exact e_5_4_false e
    · exact e_5_4_true e
  · have hj : j = 0 ∨ j = 1 ∨ j = 2 ∨ j = 3 ∨ j = 4 ∨ j = 5 := by omega
    rcases hj with rfl | rfl | rfl | rfl | rfl | rfl <;> cases lo
    · exact e_6_0_false e
    · exact e_6_0_true e
    · exact e_6_1_false e
    · exact e_6_1_true e
    · exact e_6_2_false e
    · exact e_6_2_true e
    · exact e_6_3_false e
    · exact e_6_3_true e
    · exact e_6_4_false e
    · exact e_6_4_true e
    · exact e_6_5_false e
    · exact e_6_5_true e
  · have hj : j = 0 ∨ j = 1 ∨ j = 2 ∨ j = 3 ∨ j = 4 ∨ j = 5 ∨ j = 6 := by omega
    rcases hj with rfl | rfl | rfl | rfl | rfl | rfl | rfl <;> cases lo
    · exact e_7_0_false e
    · exact e_7_0_true e
    · exact e_7_1_false e
    · exact e_7_1_true e
    · exact e_7_2_false e
    · exact e_7_2_true e
    · exact e_7_3_false e
    · exact e_7_3_true e
    · exact e_7_4_false e
    · exact e_7_4_true e
    · exact e_7_5_false e
    · exact e_7_5_true e
    · exact e_7_6_false e
    · exact e_7_6_true e
  · have hj : j = 0 ∨ j = 1 ∨ j = 2 ∨ j = 3 ∨ j = 4 ∨ j = 5 ∨ j = 6 ∨ j = 7 := by omega
    rcases hj with rfl | rfl | rfl | rfl | rfl | rfl | rfl | rfl <;> cases lo
    · exact e_8_0_false e
    · exact e_8_0_true e
    · exact e_8_1_false e
    · exact e_8_1_true e
    · exact e_8_2_false e
    · exact e_8_2_true e
    · exact e_8_3_false e
    · exact e_8_3_true e
    · exact e_8_4_false e
    · exact e_8_4_true e
    · exact e_8_5_false e
    · exact e_8_5_true e
    · exact e_8_6_false e
    · exact e_8_6_true e
    · exact e_8_7_false e
    · exact e_8_7_true e
theorem u_all (e n : Nat) (h1 : 1 ≤ n) (h2 : n ≤ 8) : preK e n (lawsS n) [2] = .done .ret endT [] [] := by
  have hn : n = 1 ∨ n = 2 ∨ n = 3 ∨ n = 4 ∨ n = 5 ∨ n = 6 ∨ n = 7 ∨ n = 8 := by omega
  rcases hn with rfl | rfl | rfl | rfl | rfl | rfl | rfl | rfl
  · exact u_1 e
  · exact u_2 e
  · exact u_3 e
  · exact u_4 e
  · exact u_5 e
  · exact u_6 e
  · exact u_7 e
  · exact u_8 e
theorem pre_all (e n m : Nat) (h1 : 1 ≤ m) (h2 : m ≤ n) (h3 : n ≤ 8) : preK e n (lawsP n m) [0, 6, 9] = .done .normal (preT n) [] (preB n m) := by
  have hn : n = 1 ∨ n = 2 ∨ n = 3 ∨ n = 4 ∨ n = 5 ∨ n = 6 ∨ n = 7 ∨ n = 8 := by omega
  rcases hn with rfl | rfl | rfl | rfl | rfl | rfl | rfl | rfl
  · have hm : m = 1 := by omega
    rcases hm with rfl
    · exact pre_1_1 e
  · have hm : m = 1 ∨ m = 2 := by omega
    rcases hm with rfl | rfl
    · exact pre_2_1 e
    · exact pre_2_2 e
  · have hm : m = 1 ∨ m = 2 ∨ m = 3 := by omega
    rcases hm with rfl | rfl | rfl
    · exact pre_3_1 e
    · exact pre_3_2 e
    · exact pre_3_3 e
  · have hm : m = 1 ∨ m = 2 ∨ m = 3 ∨ m = 4 := by omega
    rcases hm with rfl | rfl | rfl | rfl
    · exact pre_4_1 e
    · exact pre_4_2 e
    · exact pre_4_3 e
    · exact pre_4_4 e
  · have hm : m = 1 ∨ m = 2 ∨ m = 3 ∨ m = 4 ∨ m = 5 := by omega
    rcases hm with rfl | rfl | rfl | rfl | rfl
    · exact pre_5_1 e
    · exact pre_5_2 e
    · exact pre_5_3 e
    · exact pre_5_4 e
    · exact pre_5_5 e
  · have hm : m = 1 ∨ m = 2 ∨ m = 3 ∨ m = 4 ∨ m = 5 ∨ m = 6 := by omega
    rcases hm with rfl | rfl | rfl | rfl | rfl | rfl
    · exact pre_6_1 e
    · exact pre_6_2 e
    · exact pre_6_3 e
    · exact pre_6_4 e
    · exact pre_6_5 e
    · exact pre_6_6 e
  · have hm : m = 1 ∨ m = 2 ∨ m = 3 ∨ m = 4 ∨ m = 5 ∨ m = 6 ∨ m = 7 := by omega
    rcases hm with rfl | rfl | rfl | rfl | rfl | rfl | rfl
    · exact pre_7_1 e
    · exact pre_7_2 e
    · exact pre_7_3 e
    · exact pre_7_4 e
    · exact pre_7_5 e
    · exact pre_7_6 e
    · exact pre_7_7 e
  · have hm : m = 1 ∨ m = 2 ∨ m = 3 ∨ m = 4 ∨ m = 5 ∨ m = 6 ∨ m = 7 ∨ m = 8 := by omega
    rcases hm with rfl | rfl | rfl | rfl | rfl | rfl | rfl | rfl
    · exact pre_8_1 e
    · exact pre_8_2 e
    · exact pre_8_3 e
    · exact pre_8_4 e
    · exact pre_8_5 e
    · exact pre_8_6 e
    · exact pre_8_7 e
    · exact pre_8_8 e
theorem dec_all (e n m i : Nat) (h1 : 1 ≤ m) (h2 : m ≤ n) (h3 : n ≤ 8) (h4 : i < n) : decK e n m i = .val (dV i) nH := by
  have hn : n = 1 ∨ n = 2 ∨ n = 3 ∨ n = 4 ∨ n = 5 ∨ n = 6 ∨ n = 7 ∨ n = 8 := by omega
  rcases hn with rfl | rfl | rfl | rfl | rfl | rfl | rfl | rfl
  · have hm : m = 1 := by omega
    have hi : i = 0 := by omega
    rcases hm with rfl <;> rcases hi with rfl
    · exact d_1_1_0 e
  · have hm : m = 1 ∨ m = 2 := by omega
    have hi : i = 0 ∨ i = 1 := by omega
    rcases hm with rfl | rfl <;> rcases hi with rfl | rfl
    · exact d_2_1_0 e
    · exact d_2_1_1 e
    · exact d_2_2_0 e
    · exact d_2_2_1 e
  · have hm : m = 1 ∨ m = 2 ∨ m = 3 := by omega
    have hi : i = 0 ∨ i = 1 ∨ i = 2 := by omega
    rcases hm with rfl | rfl | rfl <;> rcases hi with rfl | rfl | rfl
    · exact d_3_1_0 e
    · exact d_3_1_1 e
    · exact d_3_1_2 e
    · exact d_3_2_0 e
    · exact d_3_2_1 e
    · exact d_3_2_2 e
    · exact d_3_3_0 e
    · exact d_3_3_1 e
    · exact d_3_3_2 e
  · have hm : m = 1 ∨ m = 2 ∨ m = 3 ∨ m = 4 := by omega
    have hi : i = 0 ∨ i = 1 ∨ i = 2 ∨ i = 3 := by omega
    rcases hm with rfl | rfl | rfl | rfl <;> rcases hi with rfl | rfl | rfl | rfl
    · exact d_4_1_0 e
    · exact d_4_1_1 e
    · exact d_4_1_2 e
    · exact d_4_1_3 e
    · exact d_4_2_0 e
    · exact d_4_2_1 e
    · exact d_4_2_2 e
    · exact d_4_2_3 e
    · exact d_4_3_0 e
    · exact d_4_3_1 e
    · exact d_4_3_2 e
    · exact d_4_3_3 e
    · exact d_4_4_0 e
    · exact d_4_4_1 e
    · exact d_4_4_2 e
    · exact d_4_4_3 e
  · have hm : m = 1 ∨ m = 2 ∨ m = 3 ∨ m = 4 ∨ m = 5 := by omega
    have hi : i = 0 ∨ i = 1 ∨ i = 2 ∨ i = 3 ∨ i = 4 := by omega
    rcases hm with rfl | rfl | rfl | rfl | rfl <;> rcases hi with rfl | rfl | rfl | rfl | rfl
    · exact d_5_1_0 e
    · exact d_5_1_1 e
    · exact d_5_1_2 e
    · exact d_5_1_3 e
    · exact d_5_1_4 e
    · exact d_5_2_0 e
    · exact d_5_2_1 e
    · exact d_5_2_2 e
    · exact d_5_2_3 e
    · exact d_5_2_4 e
    · exact d_5_3_0 e
    · exact d_5_3_1 e
    · exact d_5_3_2 e
    · exact d_5_3_3 e
    · exact d_5_3_4 e
    · exact d_5_4_0 e
    · exact d_5_4_1 e
    · exact d_5_4_2 e
    · exact d_5_4_3 e
    · exact d_5_4_4 e
    · exact d_5_5_0 e
    · exact d_5_5_1 e
    · exact d_5_5_2 e
    · exact d_5_5_3 e
    · exact d_5_5_4 e
  · have hm : m = 1 ∨ m = 2 ∨ m = 3 ∨ m = 4 ∨ m = 5 ∨ m = 6 := by omega
    have hi : i = 0 ∨ i = 1 ∨ i = 2 ∨ i = 3 ∨ i = 4 ∨ i = 5 := by omega
    rcases hm with rfl | rfl | rfl | rfl | rfl | rfl <;> rcases hi with rfl | rfl | rfl | rfl | rfl | rfl
    · exact d_6_1_0 e
    · exact d_6_1_1 e
    · exact d_6_1_2 e
    · exact d_6_1_3 e
    · exact d_6_1_4 e
    · exact d_6_1_5 e
    · exact d_6_2_0 e
    · exact d_6_2_1 e
    · exact d_6_2_2 e
    · exact d_6_2_3 e
    · exact d_6_2_4 e
    · exact d_6_2_5 e
    · exact d_6_3_0 e
    · exact d_6_3_1 e
    · exact d_6_3_2 e
    · exact d_6_3_3 e
    · exact d_6_3_4 e
    · exact d_6_3_5 e
    · exact d_6_4_0 e
    · exact d_6_4_1 e
    · exact d_6_4_2 e
    · exact d_6_4_3 e
    · exact d_6_4_4 e
    · exact d_6_4_5 e
    · exact d_6_5_0 e
    · exact d_6_5_1 e
    · exact d_6_5_2 e
    · exact d_6_5_3 e
    · exact d_6_5_4 e
    · exact d_6_5_5 e
    · exact d_6_6_0 e
    · exact d_6_6_1 e
    · exact d_6_6_2 e
    · exact d_6_6_3 e
    · exact d_6_6_4 e
    · exact d_6_6_5 e
  · have hm : m = 1 ∨ m = 2 ∨ m = 3 ∨ m = 4 ∨ m = 5 ∨ m = 6 ∨ m = 7 := by omega
    have hi : i = 0 ∨ i = 1 ∨ i = 2 ∨ i = 3 ∨ i = 4 ∨ i = 5 ∨ i = 6 := by omega
    rcases hm with rfl | rfl | rfl | rfl | rfl | rfl | rfl <;> rcases hi with rfl | rfl | rfl | rfl | rfl | rfl | rfl
    · exact d_7_1_0 e
    · exact d_7_1_1 e
    · exact d_7_1_2 e
    · exact d_7_1_3 e
    · exact d_7_1_4 e
    · exact d_7_1_5 e
    · exact d_7_1_6 e
    · exact d_7_2_0 e
    · exact d_7_2_1 e
    · exact d_7_2_2 e
    · exact d_7_2_3 e
    · exact d_7_2_4 e
    · exact d_7_2_5 e
    · exact d_7_2_6 e
    · exact d_7_3_0 e
    · exact d_7_3_1 e
    · exact d_7_3_2 e
    · exact d_7_3_3 e
    · exact d_7_3_4 e
    · exact d_7_3_5 e
    · exact d_7_3_6 e
    · exact d_7_4_0 e
    · exact d_7_4_1 e
    · exact d_7_4_2 e
    · exact d_7_4_3 e
    · exact d_7_4_4 e
    · exact d_7_4_5 e
    · exact d_7_4_6 e
    · exact d_7_5_0 e
    · exact d_7_5_1 e
    · exact d_7_5_2 e
    · exact d_7_5_3 e
    · exact d_7_5_4 e
    · exact d_7_5_5 e
    · exact d_7_5_6 e
    · exact d_7_6_0 e
    · exact d_7_6_1 e
    · exact d_7_6_2 e
    · exact d_7_6_3 e
    · exact d_7_6_4 e
    · exact d_7_6_5 e
    · exact d_7_6_6 e
    · exact d_7_7_0 e
    · exact d_7_7_1 e
    · exact d_7_7_2 e
    · exact d_7_7_3 e
    · exact d_7_7_4 e
    · exact d_7_7_5 e
    · exact d_7_7_6 e
  · have hm : m = 1 ∨ m = 2 ∨ m = 3 ∨ m = 4 ∨ m = 5 ∨ m = 6 ∨ m = 7 ∨ m = 8 := by omega
    have hi : i = 0 ∨ i = 1 ∨ i = 2 ∨ i = 3 ∨ i = 4 ∨ i = 5 ∨ i = 6 ∨ i = 7 := by omega
    rcases hm with rfl | rfl | rfl | rfl | rfl | rfl | rfl | rfl <;> rcases hi with rfl | rfl | rfl | rfl | rfl | rfl | rfl | rfl
    · exact d_8_1_0 e
    · exact d_8_1_1 e
    · exact d_8_1_2 e
    · exact d_8_1_3 e
    · exact d_8_1_4 e
    · exact d_8_1_5 e
    · exact d_8_1_6 e
    · exact d_8_1_7 e
    · exact d_8_2_0 e
    · exact d_8_2_1 e
    · exact d_8_2_2 e
    · exact d_8_2_3 e
    · exact d_8_2_4 e
    · exact d_8_2_5 e
    · exact d_8_2_6 e
    · exact d_8_2_7 e
    · exact d_8_3_0 e
    · exact d_8_3_1 e
    · exact d_8_3_2 e
    · exact d_8_3_3 e
    · exact d_8_3_4 e
    · exact d_8_3_5 e
    · exact d_8_3_6 e
    · exact d_8_3_7 e
    · exact d_8_4_0 e
    · exact d_8_4_1 e
    · exact d_8_4_2 e
    · exact d_8_4_3 e
    · exact d_8_4_4 e
    · exact d_8_4_5 e
    · exact d_8_4_6 e
    · exact d_8_4_7 e
    · exact d_8_5_0 e
    · exact d_8_5_1 e
    · exact d_8_5_2 e
    · exact d_8_5_3 e
    · exact d_8_5_4 e
    · exact d_8_5_5 e
    · exact d_8_5_6 e
    · exact d_8_5_7 e
    · exact d_8_6_0 e
    · exact d_8_6_1 e
    · exact d_8_6_2 e
    · exact d_8_6_3 e
    · exact d_8_6_4 e
    · exact d_8_6_5 e
    · exact d_8_6_6 e
    · exact d_8_6_7 e
    · exact d_8_7_0 e
    · exact d_8_7_1 e
    · exact d_8_7_2 e
    · exact d_8_7_3 e
    · exact d_8_7_4 e
    · exact d_8_7_5 e
    · exact d_8_7_6 e
    · exact d_8_7_7 e
    · exact d_8_8_0 e
    · exact d_8_8_1 e
    · exact d_8_8_2 e
    · exact d_8_8_3 e
    · exact d_8_8_4 e
    · exact d_8_8_5 e
    · exact d_8_8_6 e
    · exact d_8_8_7 e
end
end Go.Ev.Aw
namespace Go.Ev.Aw
noncomputable section
open Go Go.Proofs
noncomputable def layK (e n m : Nat) : Out := mergeK (preB n m) (tA e n (lawsP n m)) 11 fun _ _ => .val .undef nH
theorem l_1_1 (e : Nat) : layK e 1 1 = .val .undef nH := by kernel_rfl
theorem l_2_1 (e : Nat) : layK e 2 1 = .val .undef nH := by kernel_rfl
theorem l_2_2 (e : Nat) : layK e 2 2 = .val .undef nH := by kernel_rfl
theorem l_3_1 (e : Nat) : layK e 3 1 = .val .undef nH := by kernel_rfl
theorem l_3_2 (e : Nat) : layK e 3 2 = .val .undef nH := by kernel_rfl
theorem l_3_3 (e : Nat) : layK e 3 3 = .val .undef nH := by kernel_rfl
theorem l_4_1 (e : Nat) : layK e 4 1 = .val .undef nH := by kernel_rfl
theorem l_4_2 (e : Nat) : layK e 4 2 = .val .undef nH := by kernel_rfl
theorem l_4_3 (e : Nat) : layK e 4 3 = .val .undef nH := by kernel_rfl
theorem l_4_4 (e : Nat) : layK e 4 4 = .val .undef nH := by kernel_rfl
theorem l_5_1 (e : Nat) : layK e 5 1 = .val .undef nH := by kernel_rfl
theorem l_5_2 (e : Nat) : layK e 5 2 = .val .undef nH := by kernel_rfl
theorem l_5_3 (e : Nat) : layK e 5 3 = .val .undef nH := by kernel_rfl
theorem l_5_4 (e : Nat) : layK e 5 4 = .val .undef nH := by kernel_rfl
theorem l_5_5 (e : Nat) : layK e 5 5 = .val .undef nH := by kernel_rfl
theorem l_6_1 (e : Nat) : layK e 6 1 = .val .undef nH := by kernel_rfl
theorem l_6_2 (e : Nat) : layK e 6 2 = .val .undef nH := by kernel_rfl
theorem l_6_3 (e : Nat) : layK e 6 3 = .val .undef nH := by kernel_rfl
theorem l_6_4 (e : Nat) : layK e 6 4 = .val .undef nH := by kernel_rfl
theorem l_6_5 (e : Nat) : layK e 6 5 = .val .undef nH := by kernel_rfl
theorem l_6_6 (e : Nat) : layK e 6 6 = .val .undef nH := by kernel_rfl
theorem l_7_1 (e : Nat) : layK e 7 1 = .val .undef nH := by kernel_rfl
theorem l_7_2 (e : Nat) : layK e 7 2 = .val .undef nH := by kernel_rfl
theorem l_7_3 (e : Nat) : layK e 7 3 = .val .undef nH := by kernel_rfl
theorem l_7_4 (e : Nat) : layK e 7 4 = .val .undef nH := by kernel_rfl
theorem l_7_5 (e : Nat) : layK e 7 5 = .val .undef nH := by kernel_rfl
theorem l_7_6 (e : Nat) : layK e 7 6 = .val .undef nH := by kernel_rfl
theorem l_7_7 (e : Nat) : layK e 7 7 = .val .undef nH := by kernel_rfl
theorem l_8_1 (e : Nat) : layK e 8 1 = .val .undef nH := by kernel_rfl
theorem l_8_2 (e : Nat) : layK e 8 2 = .val .undef nH := by kernel_rfl
theorem l_8_3 (e : Nat) : layK e 8 3 = .val .undef nH := by kernel_rfl
theorem l_8_4 (e : Nat) : layK e 8 4 = .val .undef nH := by kernel_rfl
theorem l_8_5 (e : Nat) : layK e 8 5 = .val .undef nH := by kernel_rfl
theorem l_8_6 (e : Nat) : layK e 8 6 = .val .undef nH := by kernel_rfl
theorem l_8_7 (e : Nat) : layK e 8 7 = .val .undef nH := by kernel_rfl
theorem l_8_8 (e : Nat) : layK e 8 8 = .val .undef nH := by kernel_rfl
theorem lay_all (e n m : Nat) (h1 : 1 ≤ m) (h2 : m ≤ n) (h3 : n ≤ 8) : layK e n m = .val .undef nH := by
  have hn : n = 1 ∨ n = 2 ∨ n = 3 ∨ n = 4 ∨ n = 5 ∨ n = 6 ∨ n = 7 ∨ n = 8 := by omega
  rcases hn with rfl | rfl | rfl | rfl | rfl | rfl | rfl | rfl
  · have hm : m = 1 := by omega
    rcases hm with rfl
    · exact l_1_1 e
  · have hm : m = 1 ∨ m = 2 := by omega
    rcases hm with rfl | rfl
    · exact l_2_1 e
    · exact l_2_2 e
  · have hm : m = 1 ∨ m = 2 ∨ m = 3 := by omega
    rcases hm with rfl | rfl | rfl
    · exact l_3_1 e
    · exact l_3_2 e
    · exact l_3_3 e
  · have hm : m = 1 ∨ m = 2 ∨ m = 3 ∨ m = 4 := by omega
    rcases hm with rfl | rfl | rfl | rfl
    · exact l_4_1 e
    · exact l_4_2 e
    · exact l_4_3 e
    · exact l_4_4 e
  · have hm : m = 1 ∨ m = 2 ∨ m = 3 ∨ m = 4 ∨ m = 5 := by omega
    rcases hm with rfl | rfl | rfl | rfl | rfl
    · exact l_5_1 e
    · exact l_5_2 e
    · exact l_5_3 e
    · exact l_5_4 e
    · exact l_5_5 e
  · have hm : m = 1 ∨ m = 2 ∨ m = 3 ∨ m = 4 ∨ m = 5 ∨ m = 6 := by omega
    rcases hm with rfl | rfl | rfl | rfl | rfl | rfl
    · exact l_6_1 e
    · exact l_6_2 e
    · exact l_6_3 e
    · exact l_6_4 e
    · exact l_6_5 e
    · exact l_6_6 e
  · have hm : m = 1 ∨ m = 2 ∨ m = 3 ∨ m = 4 ∨ m = 5 ∨ m = 6 ∨ m = 7 := by omega
    rcases hm with rfl | rfl | rfl | rfl | rfl | rfl | rfl
    · exact l_7_1 e
    · exact l_7_2 e
    · exact l_7_3 e
    · exact l_7_4 e
    · exact l_7_5 e
    · exact l_7_6 e
    · exact l_7_7 e
  · have hm : m = 1 ∨ m = 2 ∨ m = 3 ∨ m = 4 ∨ m = 5 ∨ m = 6 ∨ m = 7 ∨ m = 8 := by omega
    rcases hm with rfl | rfl | rfl | rfl | rfl | rfl | rfl | rfl
    · exact l_8_1 e
    · exact l_8_2 e
    · exact l_8_3 e
    · exact l_8_4 e
    · exact l_8_5 e
    · exact l_8_6 e
    · exact l_8_7 e
    · exact l_8_8 e
end
end Go.Ev.Aw
namespace Go.Proofs.Sh
open Go.RowKit Go.Ev Go.Ev.Aw
section
variable {P : Program} {w : World} {xt : TypeId} {x y : Operand}
theorem ok_val (v : AV) (h : AH) : (Out.val v h).ok := trivial
theorem bin_of {op : BinOp} {F : AV → AV → (AV → Out) → Out} (hF : VSpec2 P F (bin op xt x y)) {a b r : AV} (e : F a b (fun v => .val v nH) = .val r nH) {u v z : Value} (hu : ∀ σ, VR σ a u) (hv : ∀ σ, VR σ b v) (hz : ∀ σ t, VR σ r t → t = z) :
    (bin op xt x y u v).run P w = .ok z w := by
  obtain ⟨q, hq, h⟩ := hF a b _ _ e (ok_val _ _)
  simp only [Out.val.injEq, and_true] at hq
  subst hq
  obtain ⟨t, ht, hR⟩ := h ⟨fun _ => none, fun _ => none⟩ u v w (hu _) (hv _)
  rw [ht, hz _ t hR]
theorem bin_lss (a b : Int) : (bin .lss xt x y (.int .i64 a) (.int .i64 b)).run P w = .ok (.bool (decide (a < b))) w :=
  bin_of lss_spec (a := .int .i64 a) (b := .int .i64 b) (r := .bool (decide (a < b))) (by
    have e : cmp2 (ltZ) (.int .i64 a) (.int .i64 b) (fun v => Out.val v nH) = forceB (ltZ a b) (fun r => Out.val (.bool r) nH) := rfl
    rw [e, forceB_eq, ltZ_eq]) (fun σ => by simp [VR]) (fun σ => by simp [VR]) (fun σ t h => by simpa [VR] using h)
theorem bin_gtr (a b : Int) : (bin .gtr xt x y (.int .i64 a) (.int .i64 b)).run P w = .ok (.bool (decide (b < a))) w :=
  bin_of gtr_spec (a := .int .i64 a) (b := .int .i64 b) (r := .bool (decide (b < a))) (by
    have e : cmp2 (fun a b => ltZ b a) (.int .i64 a) (.int .i64 b) (fun v => Out.val v nH) = forceB (ltZ b a) (fun r => Out.val (.bool r) nH) := rfl
    rw [e, forceB_eq, ltZ_eq]) (fun σ => by simp [VR]) (fun σ => by simp [VR]) (fun σ t h => by simpa [VR] using h)
theorem bin_neq (a b : Int) : (bin .neq xt x y (.int .i64 a) (.int .i64 b)).run P w = .ok (.bool (!decide (a = b))) w :=
  bin_of neq_spec (a := .int .i64 a) (b := .int .i64 b) (r := .bool (!decide (a = b))) (by
    have e : cmp2 (fun a b => notB (eqZ a b)) (.int .i64 a) (.int .i64 b) (fun v => Out.val v nH) = forceB (notB (eqZ a b)) (fun r => Out.val (.bool r) nH) := rfl
    rw [e, forceB_eq, eqZ_eq]
    cases decide (a = b) <;> rfl) (fun σ => by simp [VR]) (fun σ => by simp [VR]) (fun σ t h => by simpa [VR] using h)
theorem bin_add (a b : Int) (h0 : 0 ≤ a) (h1 : 0 ≤ b) (h2 : a + b ≤ 9223372036854775807) : (bin .add xt x y (.int .i64 a) (.int .i64 b)).run P w = .ok (.int .i64 (a + b)) w :=
  bin_of add_spec (a := .int .i64 a) (b := .int .i64 b) (r := .int .i64 (a + b)) (by
    show addZ a b (fun r => fitZ .i64 r fun r => .val (.int .i64 r) nH) = _
    rw [addZ_eq, fitZ_eq]
    congr 2
    rw [IntKind.wrap_i64]; omega) (fun σ => by simp [VR]) (fun σ => by simp [VR]) (fun σ t h => by simpa [VR] using h)
theorem bin_rem1 (a : Int) (h0 : 0 ≤ a) : (bin .rem xt x y (.int .i64 a) (.int .i64 1)).run P w = .ok (.int .i64 0) w :=
  bin_of rem_spec (a := .int .i64 a) (b := .int .i64 1) (r := .int .i64 0) (by
    obtain ⟨n, rfl⟩ := Int.eq_ofNat_of_zero_le h0
    show forceN (Nat.mod n 1) (fun r => Out.val (.int .i64 (.ofNat r)) nH) = _
    rw [forceN_eq]
    show Out.val (.int .i64 (.ofNat (n % 1))) nH = _
    rw [Nat.mod_one]; rfl) (fun σ => by simp [VR]) (fun σ => by simp [VR]) (fun σ t h => by simpa [VR] using h)
theorem bin_flt (op : BinOp) (k : FloatKind) (a b : Nat) : (bin op xt x y (.float k a) (.float k b)).run P w = (Go.binOp op xt (.float k a) (.float k b)).run P w := by
  simp only [bin, Sem.run_bind, guard_float, Result.andThen_ok]
theorem bin_fadd {a b r : Nat} (h : F64.add a b = some r) : (bin .add xt x y (.float .f64 a) (.float .f64 b)).run P w = .ok (.float .f64 r) w := by rw [bin_flt]; exact run_flt_add _ _ _ _ h
theorem bin_fquo {a b r : Nat} (h : F64.div a b = some r) : (bin .quo xt x y (.float .f64 a) (.float .f64 b)).run P w = .ok (.float .f64 r) w := by rw [bin_flt]; exact run_flt_quo _ _ _ _ h
theorem bin_fgeq (a b : Nat) : (bin .geq xt x y (.float .f64 a) (.float .f64 b)).run P w = .ok (.bool (F64.order a b == some .gt || F64.order a b == some .eq)) w := by
  rw [bin_flt]; simp only [Go.binOp, Op.floatCmp, ne_eq, not_true_eq_false, if_false]; rfl
theorem bin_fleq (a b : Nat) : (bin .leq xt x y (.float .f64 a) (.float .f64 b)).run P w = .ok (.bool (F64.order a b == some .lt || F64.order a b == some .eq)) w := by
  rw [bin_flt]; simp only [Go.binOp, Op.floatCmp, ne_eq, not_true_eq_false, if_false]; rfl
end
def nF (k : Nat) : Nat := FloatKind.f64.nearest (k : Int)
theorem f_bounds : (List.range 101).all (fun k => (F64.order (nF k) 0 == some .gt || F64.order (nF k) 0 == some .eq) && (F64.order (nF k) 4636737291354636288 == some .lt || F64.order (nF k) 4636737291354636288 == some .eq) &&
    (F64.div (nF k) 4636737291354636288 == some (uW k)) && (F64.add 0 (uW k) == some (uW k))) = true := by decide +kernel
theorem f_sums : (List.range 101).all (fun a => (List.range 101).all fun b => F64.add (nF a) (nF b) == some (nF (a + b))) = true := by decide +kernel
theorem f_near : ((F64.order (nF 100) 4636737291287527424 == some .gt || F64.order (nF 100) 4636737291287527424 == some .eq) && (F64.order (nF 100) 4636737291421745152 == some .lt || F64.order (nF 100) 4636737291421745152 == some .eq)) = true := by decide +kernel
theorem f_zero : nF 0 = 0 := by decide +kernel
theorem f_b {k : Nat} (h : k ≤ 100) : (F64.order (nF k) 0 == some .gt || F64.order (nF k) 0 == some .eq) = true ∧ (F64.order (nF k) 4636737291354636288 == some .lt || F64.order (nF k) 4636737291354636288 == some .eq) = true ∧
    F64.div (nF k) 4636737291354636288 = some (uW k) ∧ F64.add 0 (uW k) = some (uW k) := by
  have := List.all_eq_true.1 f_bounds k (List.mem_range.2 (by omega))
  simp only [Bool.and_eq_true] at this
  obtain ⟨⟨⟨a, b⟩, c⟩, d⟩ := this
  exact ⟨a, b, eq_of_beq c, eq_of_beq d⟩
theorem f_s {a b : Nat} (ha : a ≤ 100) (hb : b ≤ 100) : F64.add (nF a) (nF b) = some (nF (a + b)) := by
  have := List.all_eq_true.1 (List.all_eq_true.1 f_sums a (List.mem_range.2 (by omega))) b (List.mem_range.2 (by omega))
  exact eq_of_beq this
end Go.Proofs.Sh
namespace Go.Proofs.Sh
open Go.RowKit Go.Ev Go.Ev.Aw
def symS (zs : List Int) (qs : List (Value × Nat)) : Nat → Option Value := fun s =>
  if s < 10 then (zs[s]?).map (Value.int .i64)
  else if s < 20 then (zs[s - 10]?).map fun z => .float .f64 (nF z.toNat)
  else if s < 30 then some (.float .f64 (nF (zs.take (s - 20)).sum.toNat))
  else if s < 40 then (zs[s - 30]?).map fun z => .float .f64 (uW z.toNat)
  else if s < 50 then (qs[s - 40]?).map (·.1)
  else if s < 60 then (qs[s - 50]?).map fun p => .float .f64 p.2
  else if s < 70 then some (.int .i64 (zs.take (s - 60)).sum)
  else none
section
variable {σ : Sg} {zs : List Int} {qs : List (Value × Nat)}
theorem srok {op : BinOp} {a b r : AV} {va vb vr : Value} (ha : (Bool.and (atomB a) (atomB b)) = true) (h1 : atomV σ a = some va) (h2 : atomV σ b = some vb) (h3 : atomV σ r = some vr) (h4 : vr.oneCell' = true)
    (h : ∀ (P : Program) xt x y w, (bin op xt x y va vb).run P w = .ok vr w) : SRok σ ⟨op, a, b, r⟩ := by
  unfold SRok
  rw [if_neg (by rw [ha]; simp)]
  exact ⟨va, vb, vr, h1, h2, h3, h4, h⟩
theorem sym_z (hs : σ.sym = symS zs qs) {i : Nat} {z : Int} (hz : zs[i]? = some z) (hi : i < 8) : atomV σ (.sym i) = some (.int .i64 z) := by
  show σ.sym i = _
  rw [hs]; unfold symS
  rw [if_pos (by omega), hz]; rfl
theorem sym_f (hs : σ.sym = symS zs qs) {i : Nat} {z : Int} (hz : zs[i]? = some z) (hi : i < 8) : atomV σ (.sym (10 + i)) = some (.float .f64 (nF z.toNat)) := by
  show σ.sym (10 + i) = _
  rw [hs]; unfold symS
  rw [if_neg (by omega), if_pos (by omega), show 10 + i - 10 = i from by omega, hz]; rfl
theorem sym_u (hs : σ.sym = symS zs qs) {i : Nat} {z : Int} (hz : zs[i]? = some z) (hi : i < 8) : atomV σ (.sym (30 + i)) = some (.float .f64 (uW z.toNat)) := by
  show σ.sym (30 + i) = _
  rw [hs]; unfold symS
  rw [if_neg (by omega), if_neg (by omega), if_neg (by omega), if_pos (by omega), show 30 + i - 30 = i from by omega, hz]; rfl
theorem sym_sumF (hs : σ.sym = symS zs qs) {i : Nat} (hi : i ≤ 8) : atomV σ (sumF i) = some (.float .f64 (nF (zs.take i).sum.toNat)) := by
  unfold sumF
  split
  · show some (Value.float .f64 0) = _
    rw [← f_zero]; rfl
  · show σ.sym (20 + i) = _
    rw [hs]; unfold symS
    rw [if_neg (by omega), if_neg (by omega), if_pos (by omega), show 20 + i - 20 = i from by omega]
theorem sym_sumA (hs : σ.sym = symS zs qs) {i : Nat} (hi : i ≤ 8) : atomV σ (sumA i) = some (.int .i64 (zs.take i).sum) := by
  unfold sumA
  split
  · rfl
  · show σ.sym (60 + i) = _
    rw [hs]; unfold symS
    rw [if_neg (by omega), if_neg (by omega), if_neg (by omega), if_neg (by omega), if_neg (by omega), if_neg (by omega), if_pos (by omega), show 60 + i - 60 = i from by omega]
theorem sumF_succ (i : Nat) : (.sym (21 + i) : AV) = sumF (i + 1) := by show _ = AV.sym (20 + (i + 1)); congr 1; omega
theorem sumA_succ (i : Nat) : (.sym (61 + i) : AV) = sumA (i + 1) := by show _ = AV.sym (60 + (i + 1)); congr 1; omega
theorem atom_sumA (i : Nat) : atomB (sumA i) = true := by unfold sumA; split <;> rfl
theorem atom_sumF (i : Nat) : atomB (sumF i) = true := by unfold sumF; split <;> rfl
theorem take_sum {i : Nat} {z : Int} (hz : zs[i]? = some z) : (zs.take (i + 1)).sum = (zs.take i).sum + z := by
  rw [List.take_succ, hz]; simp
theorem take_bounds : ∀ (i : Nat), (∀ j z, j < i → zs[j]? = some z → 0 ≤ z ∧ z ≤ 100) → 0 ≤ (zs.take i).sum ∧ (zs.take i).sum ≤ 100 * i
  | 0, _ => by simp
  | i + 1, h => by
    obtain ⟨h1, h2⟩ := take_bounds i fun j z hj => h j z (by omega)
    cases hz : zs[i]? with
    | none =>
      have : zs.take (i + 1) = zs.take i := by rw [List.take_succ, hz]; simp
      rw [this]; omega
    | some z =>
      rw [take_sum hz]
      have := h i z (by omega) hz
      omega
theorem laws_in (hs : σ.sym = symS zs qs) {i : Nat} {z : Int} (hz : zs[i]? = some z) (hi : i < 8) (h0 : 0 ≤ z) (h1 : z ≤ 100) : ∀ q ∈ lawsIn i, SRok σ q := by
  intro q hq
  simp only [lawsIn, List.mem_cons, List.not_mem_nil, or_false] at hq
  rcases hq with rfl | rfl
  · exact srok rfl (sym_z hs hz hi) rfl rfl rfl fun P xt x y w => by
      rw [show (Value.int .i64 (.ofNat 0)) = .int .i64 0 from rfl, bin_lss, decide_eq_false (by omega)]
  · exact srok rfl (sym_z hs hz hi) rfl rfl rfl fun P xt x y w => by
      rw [show (Value.int .i64 (.ofNat 100)) = .int .i64 100 from rfl, bin_gtr, decide_eq_false (by omega)]
theorem laws_add (hs : σ.sym = symS zs qs) {i : Nat} {z : Int} (hz : zs[i]? = some z) (hi : i < 8) (hb : ∀ j z, j < i + 1 → zs[j]? = some z → 0 ≤ z ∧ z ≤ 100) : ∀ q ∈ lawsAdd i, SRok σ q := by
  obtain ⟨h0, h1⟩ := hb i z (by omega) hz
  obtain ⟨h2, h3⟩ := take_bounds (zs := zs) i fun j z hj => hb j z (by omega)
  intro q hq
  simp only [lawsAdd, List.mem_cons, List.not_mem_nil, or_false] at hq
  rcases hq with rfl | rfl
  · rw [sumA_succ]
    refine srok (by rw [atom_sumA]; rfl) (sym_sumA hs (by omega)) (sym_z hs hz hi) (sym_sumA hs (by omega)) rfl fun P xt x y w => ?_
    rw [take_sum hz]
    exact bin_add _ _ h2 h0 (by omega)
  · unfold SRok
    rw [if_pos (by rfl), if_neg (by simp [aggB]), if_neg (by simp [tupB])]
    refine ⟨z, sym_z hs hz hi, (sym_f hs hz hi).trans ?_⟩
    unfold nF
    rw [Int.toNat_of_nonneg h0]
theorem laws_fl (hs : σ.sym = symS zs qs) {i : Nat} {z : Int} (hz : zs[i]? = some z) (hi : i < 8) (h0 : 0 ≤ z) (h1 : z ≤ 100) (h2 : 0 ≤ (zs.take i).sum) (h3 : (zs.take i).sum ≤ 100) : ∀ q ∈ lawsFl i, SRok σ q := by
  obtain ⟨b1, b2, b3, b4⟩ := f_b (k := z.toNat) (by omega)
  intro q hq
  simp only [lawsFl, List.mem_cons, List.not_mem_nil, or_false] at hq
  rcases hq with rfl | rfl | rfl | rfl | rfl
  · exact srok rfl (sym_f hs hz hi) rfl rfl rfl fun P xt x y w => by rw [bin_fgeq, b1]
  · exact srok rfl (sym_f hs hz hi) rfl rfl rfl fun P xt x y w => by rw [bin_fleq, b2]
  · rw [sumF_succ]
    refine srok (by rw [atom_sumF]; rfl) (sym_sumF hs (by omega)) (sym_f hs hz hi) (sym_sumF hs (by omega)) rfl fun P xt x y w => ?_
    rw [take_sum hz]
    rw [show ((zs.take i).sum + z).toNat = (zs.take i).sum.toNat + z.toNat from by omega]
    exact bin_fadd (f_s (by omega) (by omega))
  · exact srok rfl (sym_f hs hz hi) rfl (sym_u hs hz hi) rfl fun P xt x y w => bin_fquo b3
  · exact srok rfl rfl (sym_u hs hz hi) (sym_u hs hz hi) rfl fun P xt x y w => bin_fadd b4
theorem cellVs_append : ∀ {l l' : List AV} {m m' : List Value}, cellVs σ l = some m → cellVs σ l' = some m' → cellVs σ (l ++ l') = some (m ++ m')
  | [], _, m, _, h, h' => by cases h; exact h'
  | v :: l, l', m, m', h, h' => by
    simp only [cellVs] at h
    split at h
    · rename_i u us h1 h2
      cases h
      simp only [List.cons_append, cellVs, h1, cellVs_append h2 h']
    · cases h
theorem cellVs_row (f : Nat → List AV) : ∀ (ps : List (Value × Nat)) (k : Nat), (∀ (i : Nat) (p : Value × Nat), ps[i]? = some p → cellVs σ (f (k + i)) = some [p.1, .float .f64 p.2]) → cellVs σ ((List.range' k ps.length).flatMap f) = some (shareCells ps)
  | [], k, _ => rfl
  | p :: ps, k, h => by
    obtain ⟨s, u⟩ := p
    rw [List.length_cons, List.range'_succ, List.flatMap_cons]
    have h0 := h 0 (s, u) rfl
    rw [Nat.add_zero] at h0
    exact cellVs_append h0 (cellVs_row f ps (k + 1) fun i p hp => by rw [show k + 1 + i = k + (i + 1) from by omega]; exact h (i + 1) p (by simpa using hp))
theorem cellV_nm {i : Nat} (hi : i < 8) : cellV σ (.str [119, 48 + i]) = some (.string (nmS i)) := by
  have : ([119, 48 + i].all fun n => Nat.ble n 255) = true := by
    simp only [List.all_cons, List.all_nil, Bool.and_true, Bool.and_eq_true]
    exact ⟨rfl, Nat.ble_eq_true_of_le (by omega)⟩
  show (if _ then _ else _) = _
  rw [if_pos this]; rfl
def names (n : Nat) : List Value := (List.range n).map fun i => .string (nmS i)
theorem names_get {n i : Nat} (h : i < n) : (names n)[i]? = some (.string (nmS i)) := by simp [names, h]
theorem names_len (n : Nat) : (names n).length = n := by simp [names]
theorem parts_get {ws : List Nat} {i : Nat} {p : Value × Nat} (h : (parts (names ws.length) ws)[i]? = some p) : ∃ w, ws[i]? = some w ∧ i < ws.length ∧ p = (.string (nmS i), uW w) := by
  unfold parts at h
  rw [List.getElem?_zip_eq_some] at h
  obtain ⟨h1, h2⟩ := h
  have hi : i < ws.length := by
    have := (List.getElem?_eq_some_iff.1 h1).1
    rwa [names_len] at this
  rw [names_get hi] at h1
  rw [List.getElem?_map, List.getElem?_eq_getElem hi] at h2
  refine ⟨ws[i], List.getElem?_eq_getElem hi, hi, ?_⟩
  obtain ⟨a, b⟩ := p
  simp only [Option.some.injEq, Option.map_some] at h1 h2
  rw [← h1, ← h2]
theorem parts_str (ws : List Nat) : ∀ p ∈ parts (names ws.length) ws, ∃ s, p.1 = Value.string s := by
  intro p hp
  obtain ⟨i, hi⟩ := List.mem_iff_getElem?.1 hp
  obtain ⟨w, _, _, rfl⟩ := parts_get hi
  exact ⟨_, rfl⟩
theorem parts_len (ws : List Nat) : (parts (names ws.length) ws).length = ws.length := by simp [parts, names_len]
theorem row_parts {ws : List Nat} (hs : σ.sym = symS (ws.map Int.ofNat) qs) (hn : ws.length ≤ 8) : cellVs σ (partCells ws.length) = some (shareCells (parts (names ws.length) ws)) := by
  unfold partCells
  rw [List.range_eq_range']
  have := cellVs_row (σ := σ) (fun i => [.str [119, 48 + i], .sym (30 + i)]) (parts (names ws.length) ws) 0 fun i p hp => by
    obtain ⟨w, hw, hi, rfl⟩ := parts_get hp
    rw [Nat.zero_add]
    have h2 : cellV σ (.sym (30 + i)) = some (.float .f64 (uW w)) := by
      have := sym_u hs (i := i) (z := (w : Int)) (by rw [List.getElem?_map, hw]; rfl) (by omega)
      exact this
    simp only [cellVs, cellV_nm (σ := σ) (show i < 8 by omega), h2]
  rwa [parts_len] at this
theorem row_out (hs : σ.sym = symS zs qs) (hm : qs.length ≤ 8) : cellVs σ (outCells qs.length) = some (shareCells qs) := by
  unfold outCells
  rw [List.range_eq_range']
  refine cellVs_row (σ := σ) (fun j => [.sym (40 + j), .sym (50 + j)]) qs 0 fun i p hp => ?_
  have hi := (List.getElem?_eq_some_iff.1 hp).1
  rw [Nat.zero_add]
  have h1 : cellV σ (.sym (40 + i)) = some p.1 := by
    show σ.sym (40 + i) = _
    rw [hs]; unfold symS
    rw [if_neg (by omega), if_neg (by omega), if_neg (by omega), if_neg (by omega), if_pos (by omega), show 40 + i - 40 = i from by omega, hp]; rfl
  have h2 : cellV σ (.sym (50 + i)) = some (.float .f64 p.2) := by
    show σ.sym (50 + i) = _
    rw [hs]; unfold symS
    rw [if_neg (by omega), if_neg (by omega), if_neg (by omega), if_neg (by omega), if_neg (by omega), if_pos (by omega), show 50 + i - 50 = i from by omega, hp]; rfl
  simp only [cellVs, h1, h2]
theorem laws_P {ws : List Nat} (h1 : ∀ w ∈ ws, w ≤ 100) (hsum : ws.sum = 100) (hn : ws.length ≤ 8) (hq : qs = lastOne (sumsOf (parts (names ws.length) ws) 0)) (hm : qs.length ≤ 8)
    (hs : σ.sym = symS (ws.map Int.ofNat) qs) : ∀ q ∈ lawsP ws.length qs.length, SRok σ q := by
  have hz : ∀ i, i < ws.length → ∃ w, ws[i]? = some w ∧ (ws.map Int.ofNat)[i]? = some (w : Int) ∧ w ≤ 100 := fun i hi =>
    ⟨ws[i], List.getElem?_eq_getElem hi, by rw [List.getElem?_map, List.getElem?_eq_getElem hi]; rfl, h1 _ (List.getElem_mem hi)⟩
  have hb : ∀ (j : Nat) (z : Int), (ws.map Int.ofNat)[j]? = some z → 0 ≤ z ∧ z ≤ 100 := by
    intro j z hj
    rw [List.getElem?_map] at hj
    obtain ⟨w, hw, rfl⟩ := Option.map_eq_some_iff.1 hj
    have := h1 w (List.mem_of_getElem? hw)
    simp only [Int.ofNat_eq_natCast]
    omega
  have hsumZ : ∀ i, ((ws.map Int.ofNat).take i).sum = ((ws.take i).sum : Nat) := by
    intro i
    rw [← List.map_take]
    generalize ws.take i = l
    induction l with
    | nil => rfl
    | cons a l ih => simp only [List.map_cons, List.sum_cons, ih, Int.ofNat_eq_natCast]; omega
  have hle : ∀ i, (ws.take i).sum ≤ 100 := by
    intro i
    have := take_mono ws i (max i ws.length) (Nat.le_max_left _ _)
    rw [List.take_of_length_le (Nat.le_max_right i ws.length)] at this
    omega
  have htot : ((ws.map Int.ofNat).take ws.length).sum = 100 := by rw [hsumZ, List.take_length, hsum]; rfl
  intro q hq'
  unfold lawsP at hq'
  rw [List.mem_append, List.mem_flatMap] at hq'
  rcases hq' with ⟨i, hi, hq'⟩ | hq'
  · rw [List.mem_range] at hi
    obtain ⟨w, hw, hwz, hw1⟩ := hz i hi
    rw [List.mem_append, List.mem_append] at hq'
    rcases hq' with (hq' | hq') | hq'
    · exact laws_in hs hwz (by omega) (by omega) (by omega) q hq'
    · exact laws_add hs hwz (by omega) (fun j z _ => hb j z) q hq'
    · have := hle i
      exact laws_fl hs hwz (by omega) (by omega) (by omega) (by rw [hsumZ]; omega) (by rw [hsumZ]; omega) q hq'
  · simp only [List.mem_cons, List.not_mem_nil, or_false] at hq'
    have hF := sym_sumF hs (i := ws.length) hn
    rw [htot] at hF
    have hnr := f_near
    rw [Bool.and_eq_true] at hnr
    rcases hq' with rfl | rfl | rfl | rfl
    · refine srok (by rw [atom_sumA]; rfl) (sym_sumA hs hn) rfl rfl rfl fun P xt x y w => ?_
      rw [htot, show (Value.int .i64 (.ofNat 100)) = .int .i64 100 from rfl, bin_neq]; rfl
    · exact srok (by rw [atom_sumF]; rfl) hF rfl rfl rfl fun P xt x y w => by rw [bin_fgeq]; rw [show nF (100 : Int).toNat = nF 100 from rfl, hnr.1]
    · exact srok (by rw [atom_sumF]; rfl) hF rfl rfl rfl fun P xt x y w => by rw [bin_fleq]; rw [show nF (100 : Int).toNat = nF 100 from rfl, hnr.2]
    · unfold SRok
      rw [if_pos (by rfl), if_pos (by rfl), if_pos (by rfl)]
      obtain ⟨h5, _⟩ := scan0 ws (names ws.length) hsum (names_len _)
      exact ⟨_, _, parts (names ws.length) ws, rfl, rfl, row_parts hs hn, parts_str ws, h5, by rw [← hq]; exact row_out hs hm⟩
theorem laws_E {j : Nat} {z : Int} {lo : Bool} (hb : ∀ (i : Nat) (x : Int), i < j → zs[i]? = some x → 0 ≤ x ∧ x ≤ 100) (hz : zs[j]? = some z) (hj : j < 8) (hlo : lo = decide (z < 0)) (hout : z < 0 ∨ 100 < z)
    (hs : σ.sym = symS zs qs) : ∀ q ∈ lawsE j lo, SRok σ q := by
  intro q hq
  unfold lawsE at hq
  rw [List.mem_append, List.mem_flatMap] at hq
  rcases hq with ⟨i, hi, hq⟩ | hq
  · rw [List.mem_range] at hi
    have hlt := (List.getElem?_eq_some_iff.1 hz).1
    have hx : zs[i]? = some zs[i] := List.getElem?_eq_getElem (by omega)
    obtain ⟨a, b⟩ := hb i _ hi hx
    rw [List.mem_append] at hq
    rcases hq with hq | hq
    · exact laws_in hs hx (by omega) a b q hq
    · exact laws_add hs hx (by omega) (fun k x hk => hb k x (by omega)) q hq
  · have first : SRok σ ⟨.lss, .sym j, iN 0, .bool lo⟩ := srok rfl (sym_z hs hz hj) rfl rfl rfl fun P xt x y w => by
      rw [show (Value.int .i64 (.ofNat 0)) = .int .i64 0 from rfl, bin_lss, hlo]
    cases lo with
    | true =>
      simp only [List.mem_cons, List.not_mem_nil, or_false] at hq
      subst hq; exact first
    | false =>
      have hz0 : ¬ z < 0 := of_decide_eq_false hlo.symm
      simp only [List.mem_cons, List.not_mem_nil, or_false] at hq
      rcases hq with rfl | rfl
      · exact first
      · exact srok rfl (sym_z hs hz hj) rfl rfl rfl fun P xt x y w => by
          rw [show (Value.int .i64 (.ofNat 100)) = .int .i64 100 from rfl, bin_gtr, decide_eq_true (by omega)]
theorem laws_S (hb : ∀ (i : Nat) (x : Int), zs[i]? = some x → 0 ≤ x ∧ x ≤ 100) (hn : zs.length ≤ 8) (hsum : zs.sum ≠ 100) (hs : σ.sym = symS zs qs) : ∀ q ∈ lawsS zs.length, SRok σ q := by
  intro q hq
  unfold lawsS at hq
  rw [List.mem_append, List.mem_flatMap] at hq
  rcases hq with ⟨i, hi, hq⟩ | hq
  · rw [List.mem_range] at hi
    have hx : zs[i]? = some zs[i] := List.getElem?_eq_getElem hi
    obtain ⟨a, b⟩ := hb i _ hx
    rw [List.mem_append] at hq
    rcases hq with hq | hq
    · exact laws_in hs hx (by omega) a b q hq
    · exact laws_add hs hx (by omega) (fun k x hk => hb k x) q hq
  · simp only [List.mem_cons, List.not_mem_nil, or_false] at hq
    subst hq
    refine srok (by rw [atom_sumA]; rfl) (sym_sumA hs hn) rfl rfl rfl fun P xt x y w => ?_
    rw [List.take_length, show (Value.int .i64 (.ofNat 100)) = .int .i64 100 from rfl, bin_neq, decide_eq_false hsum]; rfl
end
end Go.Proofs.Sh
namespace Go.Proofs.Sh
open Go.RowKit Go.Ev Go.Ev.Aw
def plA (c j N : Nat) : List Pl := [(0, 0, 0), (1, 0, 0), (2, 0, 0), (3, 0, 0), (4, 0, 0), (5, 0, 0), (6, 0, 0), (7, 0, 0), (8, 0, 0), (0, 0, 0), (c, j, N)]
theorem sym_cell {zs : List Int} {qs : List (Value × Nat)} {i : Nat} {z : Int} (hn : zs.length ≤ 8) (hz : zs[i]? = some z) : symS zs qs i = some (.int .i64 z) := by
  have := (List.getElem?_eq_some_iff.1 hz).1
  unfold symS
  rw [if_pos (by omega), hz]; rfl
theorem hrA {W : World} (len : ∃ m, W.cell? ⟨0, 0, none⟩ = some (.int .i64 m)) (pow : ∃ r, W.heap[2]? = some (.cells powL.toArray 753 r)) (hg : ∀ g, g < numG → g < W.heap.size) {zs : List Int} {qs : List (Value × Nat)} (hn : zs.length ≤ 8)
    {c j e lo hi : Nat} {cc : Array Value} (hc : W.heap[c]? = some (.cells cc e (lo, hi))) (hcell : ∀ (i : Nat) (z : Int), zs[i]? = some z → cc[j + i]? = some (.int .i64 z)) (l : List SR)
    (hl : ∀ q ∈ l, SRok (sgOf (plA c j cc.size) (symS zs qs)) q) :
    HR ⟨W, len, pow, symS zs qs⟩ (sgOf (plA c j cc.size) (symS zs qs)) ⟨tA e zs.length l, 11, [], 11⟩ W := by
  refine HR.base len pow (bl := blA e zs.length l) (pl := plA c j cc.size) rfl 11 ?_ ?_ ?_ (show 9 < 11 by decide) ?_ ?_
  · intro i x c' d n hx hp
    match i with
    | 10 =>
      simp only [blA, List.getElem?_cons_succ, List.getElem?_cons_zero, Option.some.injEq] at hx
      simp only [plA, List.getElem?_cons_succ, List.getElem?_cons_zero, Option.some.injEq, Prod.mk.injEq] at hp
      subst hx
      obtain ⟨rfl, rfl, rfl⟩ := hp
      refine ⟨cc, lo, hi, hc, rfl, trivial, fun i v hi' => ?_⟩
      rw [List.getElem?_map] at hi'
      obtain ⟨i', hi2, rfl⟩ := Option.map_eq_some_iff.1 hi'
      obtain ⟨hlt, e⟩ := List.getElem?_eq_some_iff.1 hi2
      simp only [List.getElem_range] at e
      subst e
      rw [List.length_range] at hlt
      have hz : zs[i]? = some zs[i] := List.getElem?_eq_getElem hlt
      refine ⟨.int .i64 zs[i], by rw [Nat.add_comm]; exact hcell i _ hz, ?_⟩
      simp only [VR]
      exact ⟨rfl, sym_cell hn hz⟩
    | 9 =>
      simp only [blA, List.getElem?_cons_succ, List.getElem?_cons_zero, Option.some.injEq] at hx
      subst hx
      exact hl
    | 0 | 1 | 2 | 3 | 4 | 5 | 6 | 7 | 8 =>
      simp only [blA, List.getElem?_cons_succ, List.getElem?_cons_zero, Option.some.injEq] at hx
      subst hx
      trivial
    | i + 11 => simp [blA] at hx
  · intro i j' x y c' d n d' n' hx lx hy ly _ _
    have key : ∀ (k : Nat) (z : ABlk), (blA e zs.length l)[k]? = some z → z.live = true → k = 10 := by
      intro k z hz lz
      match k with
      | 10 => rfl
      | 0 | 1 | 2 | 3 | 4 | 5 | 6 | 7 | 8 | 9 =>
        simp only [blA, List.getElem?_cons_succ, List.getElem?_cons_zero, Option.some.injEq] at hz
        subst hz
        simp [ABlk.live] at lz
      | k + 11 => simp [blA] at hz
    rw [key i x hx lx, key j' y hy ly]
  · intro g hlt
    have : g < 9 := hlt
    match g with
    | 0 | 1 | 2 | 3 | 4 | 5 | 6 | 7 | 8 => exact ⟨_, rfl⟩
    | g + 9 => omega
  · intro p hp
    simp only [plA, List.mem_cons, List.not_mem_nil, or_false] at hp
    have h9 : ∀ g, g < 9 → g < W.heap.size := hg
    rcases hp with rfl | rfl | rfl | rfl | rfl | rfl | rfl | rfl | rfl | rfl | rfl
    · exact h9 _ (by decide)
    · exact h9 _ (by decide)
    · exact h9 _ (by decide)
    · exact h9 _ (by decide)
    · exact h9 _ (by decide)
    · exact h9 _ (by decide)
    · exact h9 _ (by decide)
    · exact h9 _ (by decide)
    · exact h9 _ (by decide)
    · exact h9 _ (by decide)
    · exact (Array.getElem?_eq_some_iff.1 hc).1
  · intro x hx
    simp only [blA, List.mem_cons, List.not_mem_nil, or_false] at hx
    rcases hx with rfl | rfl | rfl | rfl | rfl | rfl | rfl | rfl | rfl | rfl | rfl <;> rfl
theorem argA_R {sym : Nat → Option Value} {c j N n cap : Nat} (h1 : n ≤ cap) (h2 : j + cap ≤ N) : VR (sgOf (plA c j N) sym) (argA n) (.slice (some ⟨c, j, none⟩) n cap) := by
  unfold argA
  simp only [VR]
  exact ⟨c, j, N, j, cap, rfl, rfl, h1, ⟨h1, by omega⟩, .inl (by omega)⟩
end Go.Proofs.Sh
namespace Go.Proofs.Sh
open Go.RowKit Go.Ev Go.Ev.Aw
theorem lastOne_str {l : List (Value × Nat)} (h : ∀ p ∈ l, ∃ s, p.1 = Value.string s) : ∀ p ∈ lastOne l, ∃ s, p.1 = Value.string s := by
  induction l with
  | nil => exact h
  | cons a l ih =>
    obtain ⟨s, u⟩ := a
    cases l with
    | nil =>
      intro p hp
      simp only [lastOne, List.mem_cons, List.not_mem_nil, or_false] at hp
      subst hp
      exact h (s, u) (by simp)
    | cons b l =>
      intro p hp
      have e : lastOne ((s, u) :: b :: l) = (s, u) :: lastOne (b :: l) := rfl
      rw [e, List.mem_cons] at hp
      rcases hp with rfl | hp
      · exact h (s, u) (by simp)
      · exact ih (fun p hp => h p (by simp [hp])) p hp
theorem sumsOf_str {l : List (Value × Nat)} (h : ∀ p ∈ l, ∃ s, p.1 = Value.string s) (t : Nat) : ∀ p ∈ sumsOf l t, ∃ s, p.1 = Value.string s := by
  induction l generalizing t with
  | nil => intro p hp; cases hp
  | cons a l ih =>
    obtain ⟨s, u⟩ := a
    intro p hp
    unfold sumsOf at hp
    split at hp
    · split at hp
      · rw [List.mem_cons] at hp
        rcases hp with rfl | hp
        · exact h (s, u) (by simp)
        · exact ih (fun p hp => h p (by simp [hp])) _ p hp
      · cases hp
    · exact ih (fun p hp => h p (by simp [hp])) _ p hp
theorem bytesR_eq {l : List Nat} {s t : ByteArray} (h : bytesR l s) (k : bytesR l t) : s = t := by
  unfold bytesR at h k
  rw [← h] at k
  have : ∀ (a b : List UInt8), a.map UInt8.toNat = b.map UInt8.toNat → a = b := by
    intro a
    induction a with
    | nil => intro b e; cases b with | nil => rfl | cons => cases e
    | cons x a ih =>
      intro b e
      cases b with
      | nil => cases e
      | cons y b =>
        simp only [List.map_cons, List.cons.injEq] at e
        rw [UInt8.toNat_inj.1 e.1, ih b e.2]
  apply ByteArray.ext
  exact (Array.toList_inj.1 (this _ _ k)).symm
theorem nm_R {i : Nat} (hi : i < 8) : bytesR [119, 48 + i] (nmS i) := by
  unfold bytesR nmS
  simp; omega
theorem enm_R {i : Nat} (hi : i < 8) : bytesR [101, 119, 48 + i] (enmS i) := by
  unfold bytesR enmS
  simp; omega
theorem dV_R {σ : Sg} {i : Nat} (hi : i < 8) {u : Value} (h : VR σ (dV i) u) : u = decV i := by
  unfold dV iN at h
  simp only [VR, VRs] at h
  obtain ⟨⟨l⟩, rfl, _, _, h0, rfl, _, _, rfl, rfl, _, _, rfl, ⟨s1, rfl, e1⟩, _, _, rfl, rfl, _, _, rfl, ⟨s2, rfl, e2⟩, _, _, rfl, ⟨s3, rfl, e3⟩, rfl⟩ := h
  simp only at h0
  subst h0
  have e1 := bytesR_eq e1 (show bytesR [114] ⟨#[114]⟩ by rfl)
  have e2 := bytesR_eq e2 (nm_R hi)
  have e3 := bytesR_eq e3 (enm_R hi)
  subst e1; subst e2; subst e3
  rfl
theorem laws_D {σ : Sg} {zs : List Int} {qs : List (Value × Nat)} {i k q x : Nat} (hi : i < 8) (hm : qs.length ≤ 8) (hs : ∀ j v, symS zs qs j = some v → σ.sym j = some v) (h0 : σ.sym 900 = some (.float .f64 (uK k))) (h1 : σ.sym 901 = some (.int .i64 k))
    (hstr : ∀ p ∈ qs, ∃ s, p.1 = Value.string s) (hq : qs[q]? = some (.string (nmS i), x)) (hgt : gtF x (uK k) = true) (hle : ∀ (q' : Nat) (p : Value × Nat), q' < q → qs[q']? = some p → gtF p.2 (uK k) = false) : ∀ r ∈ lawsD qs.length i, SRok σ r := by
  intro r hr
  simp only [lawsD, List.mem_cons, List.not_mem_nil, or_false] at hr
  rcases hr with rfl | rfl | rfl
  · unfold SRok
    rw [if_pos (by rfl), if_pos (by rfl), if_neg (show ¬ (Nat.beq (bix .sub) (bix .add) = true) by decide)]
    refine ⟨outCells qs.length, .sym 900, qs, uK k, [119, 48 + i], nmS i, q, x, rfl, rfl, ?_, hstr, h0, hq, nm_R hi, hgt, hle⟩
    exact cellVs.mono (σ := ⟨fun _ => none, symS zs qs⟩) hs (row_out rfl hm)
  · unfold SRok
    rw [if_pos (by rfl), if_neg (by simp [aggB]), if_pos (by rfl)]
    refine ⟨.sym 901, k, 0, rfl, h1, rfl, ?_⟩
    rw [if_neg (by omega)]
    exact h1
  · exact srok rfl h1 rfl rfl rfl fun P xt x y w => bin_rem1 _ (by omega)
theorem z6 : (G2.ft.get 6).bind (·.body) = some (bodyOf Tryz.f6) := by kernel_rfl
theorem s6 : sumOf 6 G2.sums = none := by kernel_rfl
theorem dec_any {ws : List Nat} {qs : List (Value × Nat)} (hn0 : 1 ≤ ws.length) (hn : ws.length ≤ 8) (hsum : ws.sum = 100) (hqs : qs = lastOne (sumsOf (parts (names ws.length) ws) 0)) (hm0 : 1 ≤ qs.length) (hm : qs.length ≤ ws.length) {e : Nat}
    {B : Base} {σ : Sg} {t1 : BT ABlk} {W1 w : World} (hB : B.sym = symS (ws.map Int.ofNat) qs)
    (hl : ∀ a, t1.get a = if 11 ≤ a ∧ a < 11 + (preB ws.length qs.length).length then (preB ws.length qs.length)[a - 11]? else (tA e ws.length (lawsP ws.length qs.length)).get a)
    (hr : HR B σ ⟨t1, 11 + (preB ws.length qs.length).length, [], 11⟩ W1) {tv hv : Value} (htv : VR σ (tV ws.length) tv) (hhv : VR σ (hV ws.length) hv) (k : Nat) (hk : k < 100) (hw : OldKept W1 w) :
    ∃ i, i < ws.length ∧ (ws.take i).sum ≤ k ∧ k < (ws.take (i + 1)).sum ∧
      Calls Tryz.prog 6 #[tv, hv, .string ⟨#[71, 69, 84]⟩, .string ⟨#[97]⟩, .string ⟨#[47]⟩, .float .f64 (uK k), .int .i64 k] w fun e w' => e = .returned (decV i) ∧ OldKept w w' := by
  obtain ⟨i, q, x, nm, a1, a2, a3, a4, a5, a6, a7⟩ := (scan0 ws (names ws.length) hsum (names_len _)).2 k hk
  rw [names_get a3] at a4
  cases a4
  rw [← hqs] at a5 a7
  refine ⟨i, a3, a1, a2, ?_⟩
  let s : Nat → Option Value := fun y => if y = 900 then some (.float .f64 (uK k)) else if y = 901 then some (.int .i64 k) else B.sym y
  have hs : ∀ y v, B.sym y = some v → s y = some v := by
    intro y v hy
    show (if y = 900 then _ else if y = 901 then _ else B.sym y) = _
    by_cases h0 : y = 900
    · subst h0; rw [hB] at hy; cases hy
    · by_cases h1 : y = 901
      · subst h1; rw [hB] at hy; cases hy
      · rw [if_neg h0, if_neg h1]; exact hy
  have hσ : σ.sym = B.sym := hr.syms.2
  have hr2 := (hr.any hw).resym hs
  have e0 := dec_all e ws.length qs.length i hm0 hm hn a3
  unfold decK at e0
  obtain ⟨t', e1, hget⟩ := mergeK_inv (show (Out.val (dV i) nH).ok from trivial) _ _ _ _ e0
  have hlaws : ∀ r ∈ lawsD qs.length i, SRok { σ with sym := s } r := laws_D (zs := ws.map Int.ofNat) (by omega) (by omega) (fun y v hy => hs y v (by rw [hB]; exact hy)) rfl rfl
    (by rw [hqs]; exact lastOne_str (sumsOf_str (parts_str ws) 0)) a5 a6 a7
  have hin : ∀ b x', t'.get b = some x' → (∃ l, x' = .syms l ∧ b < 11 + (preB ws.length qs.length).length ∧ ∀ q ∈ l, SRok { σ with sym := s } q) ∨ ∃ x, t1.get b = some x ∧ (x' = x ∧ x.writable = false ∨ x' = x.toRo) := by
    intro b x' hb
    rw [hget b] at hb
    rw [List.length_map] at hb
    split at hb
    · rename_i hc
      rw [List.getElem?_map] at hb
      obtain ⟨y, hy, rfl⟩ := Option.map_eq_some_iff.1 hb
      exact .inr ⟨y, by rw [hl b, if_pos hc]; exact hy, .inr rfl⟩
    · rename_i hc
      have hb' := BT.get_ofList _ _ _ _ hb
      match b with
      | 9 =>
        simp only [blA, List.getElem?_cons_succ, List.getElem?_cons_zero, Option.some.injEq] at hb'
        exact .inl ⟨_, hb'.symm, by omega, hlaws⟩
      | 0 | 1 | 2 | 3 | 4 | 5 | 6 | 7 | 8 | 10 =>
        simp only [blA, List.getElem?_cons_succ, List.getElem?_cons_zero, Option.some.injEq] at hb'
        exact .inr ⟨x', by rw [hl _, if_neg hc, ← hb']; rfl, .inl ⟨rfl, by rw [← hb']; rfl⟩⟩
      | b + 11 => simp [blA] at hb'
  have hr3 := hr2.weak (t' := t') fun b x' hb => by
    rcases hin b x' hb with h | ⟨x, h1, h2 | h2⟩
    · exact .inl h
    · exact .inr ⟨x, h1, .inl h2.1⟩
    · exact .inr ⟨x, h1, .inr h2⟩
  have hr4 := hr3.rebase fun b x' hb => by
    rcases hin b x' hb with ⟨l, rfl, _⟩ | ⟨x, h1, ⟨rfl, h2⟩ | rfl⟩
    · rfl
    · exact h2
    · cases x <;> rfl
  rw [List.length_map] at e1
  have hle : Le σ { σ with sym := s } := ⟨fun _ _ h => h, fun y v hy => hs y v (by rw [← hσ]; exact hy)⟩
  have hargs : VRs { σ with sym := s } [tV ws.length, hV ws.length, .str [71, 69, 84], .str [97], .str [47], .sym 900, .sym 901] (#[tv, hv, .string ⟨#[71, 69, 84]⟩, .string ⟨#[97]⟩, .string ⟨#[47]⟩, .float .f64 (uK k), .int .i64 k] : Array Value).toList := by
    refine .cons (VR.mono hle _ _ htv) (.cons (VR.mono hle _ _ hhv) (.cons ?_ (.cons ?_ (.cons ?_ (.cons ?_ (.cons ?_ .nil))))))
    · simp only [VR]; exact ⟨_, rfl, rfl⟩
    · simp only [VR]; exact ⟨_, rfl, rfl⟩
    · simp only [VR]; exact ⟨_, rfl, rfl⟩
    · simp only [VR]; exact ⟨rfl, rfl⟩
    · simp only [VR]; exact ⟨rfl, rfl⟩
  have := calls_of g2_ok (run_ok g2_ok ext_all2 1000000) s6 e1 trivial z6 hargs hr4 (R := fun e w' => e = .returned (decV i) ∧ OldKept w w') fun v h' τ u w' ev hgr hkp hvR hr' => by
    simp only [Out.val.injEq] at ev
    obtain ⟨rfl, _⟩ := ev
    exact ⟨by rw [dV_R (by omega) hvR], hr'.keep, hr'.grow, hr'.os, hr'.tape, hr'.output⟩
  exact this
end Go.Proofs.Sh
namespace Go.Proofs.Sh
open Go.RowKit Go.Ev Go.Ev.Aw
theorem p3 : Tryz.prog.funcs[3]? = some Tryz.f3 := (g2_ok.fn 3 Tryz.f3 y3).1
theorem r3 : Tryz.f3.results.toList = [.tmp 2] := by kernel_rfl
theorem nt3 : Tryz.f3.ntmps = 157 := by kernel_rfl
theorem end2 : tget 157 endT 2 = some (.bool true) := by kernel_rfl
theorem pre0 (n : Nat) : tget 157 (preT n) 0 = some (argA n) := by rfl
theorem pre6 (n : Nat) : tget 157 (preT n) 6 = some (hV n) := by rfl
theorem pre9 (n : Nat) : tget 157 (preT n) 9 = some (.ptr (12 + n) 0) := by rfl
theorem leave3 {tm : Array Value} {w : World} (h : tm.getD 2 undef = .bool true) : (results Tryz.f3 tm).run Tryz.prog w = .ok (.bool true) w := by
  have := results_run (fn := Tryz.f3) (tm := tm) (P := Tryz.prog) (w := w) (us := [.bool true]) (by rw [r3]; simp only [List.mapM_cons, List.mapM_nil, h]; rfl)
  exact this
def EndZ (W : World) (cs : List Frame) (m : Machine) : Prop := ∃ w' fr, m = lone fr cs w' ∧ OldKept W w' ∧ fr.fn = 3 ∧ fr.leaving Tryz.prog w' (.returned (.bool true))
theorem endZ {W w : World} {cs : List Frame} {tm : Array Value} {todo : List Item} (h : tm.getD 2 undef = .bool true) (ok : OldKept W w) : EndZ W cs (lone ((⟨3, .normal, none⟩ : Cx).out tm [] todo) cs w) :=
  ⟨w, _, rfl, ok, rfl, rfl, rfl, rfl, Tryz.f3, p3, leave3 h⟩
theorem calls_endZ {W : World} {args : Array Value} (h : ∀ cs, Go.Ev.Reach Tryz.prog (lone (Frame.enter Tryz.prog 3 args .normal) cs W) (EndZ W cs)) : Calls Tryz.prog 3 args W fun e w' => e = .returned (.bool true) ∧ OldKept W w' := by
  intro cs
  obtain ⟨m', hst, w', fr, rfl, ok, hf, hl⟩ := h cs
  exact ⟨.returned (.bool true), w', fr, ⟨rfl, ok⟩, hst, hf, hl⟩
theorem lastOne_len (l : List (Value × Nat)) : (lastOne l).length = l.length := by
  induction l with
  | nil => rfl
  | cons a l ih =>
    obtain ⟨s, u⟩ := a
    cases l with
    | nil => rfl
    | cons b l =>
      show ((s, u) :: lastOne (b :: l)).length = _
      rw [List.length_cons, ih]; rfl
theorem sumsOf_len (l : List (Value × Nat)) (t : Nat) : (sumsOf l t).length ≤ l.length := by
  induction l generalizing t with
  | nil => exact Nat.le_refl _
  | cons a l ih =>
    obtain ⟨s, u⟩ := a
    unfold sumsOf
    split
    · split
      · rw [List.length_cons, List.length_cons]
        exact Nat.succ_le_succ (ih _)
      · exact Nat.zero_le _
    · exact Nat.le_succ_of_le (ih _)
theorem cell_at {w : World} {b i e : Nat} {cc : Array Value} {r : Nat × Nat} {v : Value} (h : w.heap[b]? = some (.cells cc e r)) (hv : cc[i]? = some v) : w.cell? ⟨b, i, none⟩ = some v := by
  simp [World.cell?, h, hv]
theorem early {W : World} (len : ∃ m, W.cell? ⟨0, 0, none⟩ = some (.int .i64 m)) (pow : ∃ r, W.heap[2]? = some (.cells powL.toArray 753 r)) (hg : ∀ g, g < numG → g < W.heap.size) {zs : List Int} {qs : List (Value × Nat)} (hn : zs.length ≤ 8) {c j cap e lo hi : Nat} {cc : Array Value} (hc : W.heap[c]? = some (.cells cc e (lo, hi)))
    (hcell : ∀ (i : Nat) (z : Int), zs[i]? = some z → cc[j + i]? = some (.int .i64 z)) (h1 : zs.length ≤ cap) (h2 : j + cap ≤ cc.size) (l : List SR)
    (hl : ∀ q ∈ l, SRok (sgOf (plA c j cc.size) (symS zs qs)) q) (he : preK e zs.length l [2] = .done .ret endT [] []) :
    Calls Tryz.prog 3 #[.slice (some ⟨c, j, none⟩) zs.length cap] W fun e w' => e = .returned (.bool true) ∧ OldKept W w' := by
  apply calls_endZ
  intro cs
  let A : Bas := { G := G2, ok := g2_ok, ext := ext_all2, B := ⟨W, len, pow, symS zs qs⟩, t := tA e zs.length l, n := 11, σ := sgOf (plA c j cc.size) (symS zs qs), w := W, hr := hrA len pow hg hn hc hcell l hl }
  have key : Go.Ev.Reach A.G.P (lone (Frame.enter A.G.P 3 #[.slice (some ⟨c, j, none⟩) zs.length cap] .normal) cs A.w) (EndZ W cs) := by
    refine Bas.enter (A := A) (S' := ⟨endT, [], []⟩) y3 tb_eq (by unfold preK at he; exact he) (.cons (argA_R h1 h2) .nil) cs _ ?_
    intro tm' w' ⟨σ, H⟩ k
    have hr := H.heap A.t fun a => by rw [if_neg (by simp)]
    have ht := H.tr.val 2 _ (by rw [nt3]; exact end2)
    simp only [VR] at ht
    exact go_ret rfl (.here (endZ ht ⟨hr.keep, hr.grow, hr.os, hr.tape, hr.output⟩))
  exact key
theorem main_case {W : World} (len : ∃ m, W.cell? ⟨0, 0, none⟩ = some (.int .i64 m)) (pow : ∃ r, W.heap[2]? = some (.cells powL.toArray 753 r)) (hg : ∀ g, g < numG → g < W.heap.size) {ws : List Nat} (hn0 : 1 ≤ ws.length) (hn : ws.length ≤ 8) (h100 : ∀ w ∈ ws, w ≤ 100) (hsum : ws.sum = 100) {c j cap e lo hi : Nat} {cc : Array Value} (hc : W.heap[c]? = some (.cells cc e (lo, hi)))
    (hcell : ∀ (i : Nat) (z : Int), (ws.map Int.ofNat)[i]? = some z → cc[j + i]? = some (.int .i64 z)) (h1 : ws.length ≤ cap) (h2 : j + cap ≤ cc.size) :
    Calls Tryz.prog 3 #[.slice (some ⟨c, j, none⟩) ws.length cap] W fun e w' => e = .returned (.bool true) ∧ OldKept W w' := by
  apply calls_endZ
  intro cs
  obtain ⟨qs, hqs⟩ : ∃ qs, qs = lastOne (sumsOf (parts (names ws.length) ws) 0) := ⟨_, rfl⟩
  have hm : qs.length ≤ ws.length := by
    rw [hqs, lastOne_len]
    exact Nat.le_trans (sumsOf_len _ _) (by rw [parts_len]; exact Nat.le_refl _)
  have hm0 : 1 ≤ qs.length := by
    obtain ⟨i, q, x, nm, _, _, _, _, a5, _⟩ := (scan0 ws (names ws.length) hsum (names_len _)).2 0 (by omega)
    rw [← hqs] at a5
    have := (List.getElem?_eq_some_iff.1 a5).1
    omega
  have hlen : (ws.map Int.ofNat).length = ws.length := List.length_map ..
  have hr0 := hrA (qs := qs) len pow hg (by rw [hlen]; exact hn) hc hcell (lawsP ws.length qs.length) (laws_P h100 hsum hn hqs (by omega) rfl)
  rw [hlen] at hr0
  let A : Bas := { G := G2, ok := g2_ok, ext := ext_all2, B := ⟨W, len, pow, symS (ws.map Int.ofNat) qs⟩, t := tA e ws.length (lawsP ws.length qs.length), n := 11, σ := sgOf (plA c j cc.size) (symS (ws.map Int.ofNat) qs), w := W, hr := hr0 }
  have key : Go.Ev.Reach A.G.P (lone (Frame.enter A.G.P 3 #[.slice (some ⟨c, j, none⟩) ws.length cap] .normal) cs A.w) (EndZ W cs) := by
    have he := pre_all e ws.length qs.length hm0 hm hn
    refine Bas.enter (A := A) (S' := ⟨preT ws.length, [], preB ws.length qs.length⟩) y3 tb_eq (by unfold preK at he; exact he) (.cons (argA_R h1 h2) .nil) cs _ ?_
    intro tm' W1 ⟨σ, H⟩
    have hl0 := lay_all e ws.length qs.length hm0 hm hn
    unfold layK at hl0
    obtain ⟨t1, _, hl⟩ := mergeK_inv (show (Out.val .undef nH).ok from trivial) _ _ _ _ hl0
    have hr := H.heap t1 hl
    have ok1 : OldKept W W1 := ⟨hr.keep, hr.grow, hr.os, hr.tape, hr.output⟩
    have htr := H.tr
    rw [nt3] at htr
    have v0 := htr.val 0 _ (pre0 _)
    have v6 := htr.val 6 _ (pre6 _)
    have v9 := htr.val 9 _ (pre9 _)
    unfold argA at v0
    simp only [VR] at v0 v9
    obtain ⟨c', d', n', j', cap', hat, e0, _, _, hj⟩ := v0
    have hat2 : σ.at_ 10 = some (c, j, cc.size) := (H.grows.at_ 10 (show 10 < 11 by decide)).trans rfl
    rw [hat2] at hat
    simp only [Option.some.injEq, Prod.mk.injEq] at hat
    obtain ⟨rfl, rfl, rfl⟩ := hat
    have hj : j' = j := by
      rcases hj with h | ⟨h, _⟩
      · omega
      · omega
    subst hj
    obtain ⟨tb, db, nb, hatb, e9⟩ := v9
    have hblk : t1.get (12 + ws.length) = some (.cells [iN 1, .slc (13 + ws.length) 0 1 (.least 1 4), .slc (16 + ws.length) 0 ws.length (.least ws.length 1)] 41 .plain) := by
      have hlen : (preB ws.length qs.length).length = 1 + (ws.length + 5) := by simp [preB]; omega
      rw [hl, if_pos (by rw [hlen]; omega), show 12 + ws.length - 11 = ws.length + 1 from by omega]
      unfold preB
      rw [List.getElem?_cons_succ, List.getElem?_append_right (by simp)]
      simp
    obtain ⟨cb, lo', hi', hheap, hsz, ⟨_, rfl⟩, hcs⟩ := hr.blk _ _ _ _ _ hblk hatb
    obtain ⟨t0, g0, R0⟩ := hcs 0 _ rfl
    obtain ⟨t1v, g1, R1⟩ := hcs 1 _ rfl
    obtain ⟨t2, g2, R2⟩ := hcs 2 _ rfl
    have hcz : c < W.heap.size := (Array.getElem?_eq_some_iff.1 hc).1
    have htv : VR σ (tV ws.length) (.agg #[t0, t1v, t2]) := by
      unfold tV
      simp only [VR]
      exact ⟨_, rfl, .cons R0 (.cons R1 (.cons R2 .nil))⟩
    have := tail_arr tm' htr.size ws hn0 hn hsum c j' cap' tb (.agg #[t0, t1v, t2]) (tm'.getD 6 undef) W1 e0 rfl (by rw [e9, Nat.zero_add])
      (fun i x hi => cell_at ((ok1.heap _ hcz).trans hc) (hcell i x (by rw [List.getElem?_map, hi]; rfl))) (Nat.lt_of_lt_of_le hcz ok1.size) t0 t1v t2 rfl (cell_at hheap g0) (cell_at hheap g1) (cell_at hheap g2) (hr.size _ _ _ _ hatb)
      (fun k w hk hw => dec_any hn0 hn hsum hqs hm0 hm rfl hl hr htv v6 k hk hw)
      (fun e a w => e = .ret ∧ a.defers = [] ∧ a.tmps.getD 2 undef = .bool true ∧ OldKept W1 w) (fun a w b1 b2 b3 => ⟨rfl, b1, b2, b3⟩)
    obtain ⟨ex, a', w2, ⟨rfl, hd, h2', ok2⟩, todo, hst⟩ := this ((⟨3, .normal, none⟩ : Cx).fr tm' [] []) [] cs
    refine ⟨_, hst, ?_⟩
    have ok : OldKept W w2 := ⟨fun c hc => (ok2.heap c (Nat.lt_of_lt_of_le hc ok1.size)).trans (ok1.heap c hc), Nat.le_trans ok1.size ok2.size, ok2.os.trans ok1.os, ok2.tape.trans ok1.tape, ok2.output.trans ok1.output⟩
    have := endZ (W := W) (cs := cs) (todo := todo) h2' ok
    obtain ⟨tms, dfs⟩ := a'
    simp only at hd
    subst hd
    exact this
  exact key
end Go.Proofs.Sh
namespace Go.Proofs.Sh
open Go.RowKit Go.Ev Go.Ev.Aw
theorem first_out : ∀ (zs : List Int), (∀ z ∈ zs, 0 ≤ z ∧ z ≤ 100) ∨ ∃ (j : Nat) (z : Int), zs[j]? = some z ∧ (z < 0 ∨ 100 < z) ∧ ∀ (i : Nat) (x : Int), i < j → zs[i]? = some x → 0 ≤ x ∧ x ≤ 100
  | [] => .inl fun z hz => by cases hz
  | z :: zs => by
    by_cases h : 0 ≤ z ∧ z ≤ 100
    · rcases first_out zs with k | ⟨j, y, h1, h2, h3⟩
      · left
        intro x hx
        rw [List.mem_cons] at hx
        rcases hx with rfl | hx
        · exact h
        · exact k x hx
      · right
        refine ⟨j + 1, y, by rw [List.getElem?_cons_succ]; exact h1, h2, fun i x hi hx => ?_⟩
        cases i with
        | zero => rw [List.getElem?_cons_zero] at hx; cases hx; exact h
        | succ i => exact h3 i x (by omega) (by rw [List.getElem?_cons_succ] at hx; exact hx)
    · right
      exact ⟨0, z, rfl, by omega, fun i x hi => by omega⟩
set_option maxRecDepth 100000 in
set_option maxHeartbeats 2000000 in
theorem hand_case {W : World} (len : ∃ m, W.cell? ⟨0, 0, none⟩ = some (.int .i64 m)) (pow : ∃ r, W.heap[2]? = some (.cells powL.toArray 753 r)) (hg : ∀ g, g < numG → g < W.heap.size) (O : Option Addr) (n cap : Nat) (h : n < 1 ∨ 8 < n) (h2 : n ≤ 9223372036854775807) :
    Calls Tryz.prog 3 #[.slice O n cap] W fun e w' => e = .returned (.bool true) ∧ OldKept W w' := by
  have ha := awake_any W len pow hg
  go_enter Tryz.func3, Tryz.ntmps3
  rcases h with h | h
  · go_wp2_with (first
      | (go_at_call 4; go_loud (refine ha.mono ?_); rintro e w2 ⟨rfl, hold⟩)
      | fail)
    go_ret
    exact ⟨rfl, hold⟩
  · go_wp2_with (first
      | (go_at_call 4; go_loud (refine ha.mono ?_); rintro e w2 ⟨rfl, hold⟩)
      | fail)
    go_ret
    exact ⟨rfl, hold⟩
theorem shares_any {W : World} (len : ∃ m, W.cell? ⟨0, 0, none⟩ = some (.int .i64 m)) (pow : ∃ r, W.heap[2]? = some (.cells powL.toArray 753 r)) (hg : ∀ g, g < numG → g < W.heap.size) (O : Option Addr) (zs : List Int) (cap : Nat) (h2 : zs.length ≤ 9223372036854775807)
    (hO : 1 ≤ zs.length → ∃ c j e r cc, O = some ⟨c, j, none⟩ ∧ W.heap[c]? = some (.cells cc e r) ∧ zs.length ≤ cap ∧ j + cap ≤ cc.size ∧ ∀ (i : Nat) (z : Int), zs[i]? = some z → cc[j + i]? = some (.int .i64 z)) :
    Calls Tryz.prog 3 #[.slice O zs.length cap] W fun e w' => e = .returned (.bool true) ∧ OldKept W w' := by
  by_cases hn : zs.length < 1 ∨ 8 < zs.length
  · exact hand_case len pow hg O zs.length cap hn h2
  · obtain ⟨c, j, e, ⟨lo, hi⟩, cc, rfl, hc, h3, h4, hcell⟩ := hO (by omega)
    rcases first_out zs with hin | ⟨i, z, hz, hout, hb⟩
    · by_cases hsum : zs.sum = 100
      · obtain ⟨ws, rfl⟩ : ∃ ws : List Nat, zs = ws.map Int.ofNat := by
          refine ⟨zs.map Int.toNat, ?_⟩
          rw [List.map_map]
          conv => lhs; rw [← List.map_id zs]
          refine List.map_congr_left fun z hz => ?_
          have := (hin z hz).1
          show z = (z.toNat : Int)
          omega
        rw [List.length_map] at hn h3 ⊢
        refine main_case len pow hg (by omega) (by omega) (fun w hw => ?_) ?_ hc hcell h3 h4
        · have := (hin _ (List.mem_map_of_mem hw)).2
          simp only [Int.ofNat_eq_natCast] at this
          omega
        · have key : ∀ l : List Nat, (l.map Int.ofNat).sum = (l.sum : Nat) := by
            intro l
            induction l with
            | nil => rfl
            | cons a l ih => simp only [List.map_cons, List.sum_cons, ih, Int.ofNat_eq_natCast]; omega
          rw [key] at hsum
          omega
      · exact early len pow hg (qs := []) (by omega) hc hcell h3 h4 _ (laws_S (fun i x hx => hin x (List.mem_of_getElem? hx)) (by omega) hsum rfl) (u_all e zs.length (by omega) (by omega))
    · have hi := (List.getElem?_eq_some_iff.1 hz).1
      exact early len pow hg (qs := []) (by omega) hc hcell h3 h4 _ (laws_E hb hz (by omega) rfl hout rfl) (e_all e zs.length i _ hi (by omega))
end Go.Proofs.Sh
