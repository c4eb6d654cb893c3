/-
  The walk of step where the two steps are the same.
-/
import Derived.Test.YtpafimjdlbnckaaLent
namespace Go.Proofs.Ytpafimjdlbnckaa
open Go.RowKit

set_option maxHeartbeats 400000 in
theorem step_eq (op a b at_ : Int) (xs : List UInt8) (D D' : Option Addr) (c c' B B' : Nat) (w : World) (hx : Rd w B D (bv xs)) (hy : Rd w B' D' (bv xs)) (hB : B ≤ w.heap.size) (hB' : B' ≤ w.heap.size)
    (hxl : xs.length ≤ 9223372036854775807) :
    Calls Try.prog 10 #[.agg #[.int .i64 op, .int .i64 a, .int .i64 b, .slice D xs.length c], .agg #[.int .i64 op, .int .i64 a, .int .i64 b, .slice D' xs.length c', .int .i64 at_]] w
      fun e w' => e = .returned (.bool true) ∧ Below w.heap.size w w' := by
  have hd : decide (xs = xs) = true := by simp
  go_enter Try.func10, Try.ntmps10
  go_wp2_with (first | (go_at_call 13; refine (same_any xs xs _ _ _ _ B B' _ ?_ ?_ hxl).mono ?_; exact ((hx.alloc hB _).alloc (by simp; omega) _); exact ((hy.alloc hB' _).alloc (by simp; omega) _); rintro e w1 ⟨rfl, k, rfl⟩) | fail)
  go_ret
  exact ⟨by simp, below_drewN (((Below.refl _ _).alloc (Nat.le_refl _) _).alloc (by simp) _) _⟩

end Go.Proofs.Ytpafimjdlbnckaa
