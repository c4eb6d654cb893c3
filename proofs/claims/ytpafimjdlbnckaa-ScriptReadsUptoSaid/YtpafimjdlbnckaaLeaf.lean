/-
  The walks of the small functions of turnpikelaw02, script and turnpikeref02.
-/
import Derived.Test.YtpafimjdlbnckaaChecked
import Derived.Test.YtpafimjdlbnckaaSteps
namespace Go.Proofs.Ytpafimjdlbnckaa
open Go.RowKit

theorem num_any (n : Int) (w : World) : Calls Try.prog 12 #[.int .i64 n] w fun e w' => e = .returned (.int .i64 n) ∧ w = w' := by
  go_enter Try.func12, Try.ntmps12
  go_wp2
  go_ret
  exact ⟨rfl, rfl⟩

theorem carries_any (n : Int) (w : World) : Calls Try.prog 19 #[.int .i64 n] w fun e w' => e = .returned (.bool (carB n)) ∧ w = w' := by
  have hn : (n = 3 ∨ n = 5 ∨ n = 10 ∨ n = 11 ∨ n = 13) ∨ (n ≠ 3 ∧ n ≠ 5 ∧ n ≠ 10 ∧ n ≠ 11 ∧ n ≠ 13) := by omega
  rcases hn with (rfl | rfl | rfl | rfl | rfl) | ⟨h1, h2, h3, h4, h5⟩
  all_goals
    go_enter Try.func19, Try.ntmps19
    go_wp2
    go_ret
    exact ⟨by simp [carB, *], rfl⟩

theorem rcarries_any (n : Int) (w : World) : Calls Try.prog 20 #[.int .i64 n] w fun e w' => e = .returned (.bool (carB n)) ∧ w = w' := by
  have hn : (n = 3 ∨ n = 5 ∨ n = 10 ∨ n = 11 ∨ n = 13) ∨ (n ≠ 3 ∧ n ≠ 5 ∧ n ≠ 10 ∧ n ≠ 11 ∧ n ≠ 13) := by omega
  rcases hn with (rfl | rfl | rfl | rfl | rfl) | ⟨h1, h2, h3, h4, h5⟩
  all_goals
    go_enter Try.func20, Try.ntmps20
    go_wp2
    go_ret
    exact ⟨by simp [carB, *], rfl⟩

end Go.Proofs.Ytpafimjdlbnckaa
