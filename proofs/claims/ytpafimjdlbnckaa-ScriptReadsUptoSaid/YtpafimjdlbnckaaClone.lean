/-
  The walk of slices.Clone; bits of whole numbers.
-/
import Derived.Test.YtpafimjdlbnckaaLent
import Derived.Test.YtpafimjdlbnckaaGrp
namespace Go.Proofs.Ytpafimjdlbnckaa
open Go.RowKit

theorem i64_and15 (n : Int) : bits .and .i64 n 15 = n % 16 := by
  have h15 : (BitVec.ofInt 64 15).toNat = 2 ^ 4 - 1 := by decide
  have key : (BitVec.ofInt 64 n &&& BitVec.ofInt 64 15).toNat = (n % ((2 ^ 64 : Nat) : Int)).toNat % 2 ^ 4 := by
    rw [BitVec.toNat_and, BitVec.toNat_ofInt, h15, Nat.and_two_pow_sub_one_eq_mod]
  show IntKind.i64.wrap ((BitVec.ofInt 64 n &&& BitVec.ofInt 64 15).toNat : Nat) = n % 16
  rw [key, IntKind.wrap_i64]
  omega
theorem i64_or_two {a b : Nat} (ha : a < 256) (hb : b < 256) : bits .or .i64 (a : Int) ((b : Int) * 256) = ((a + 256 * b : Nat) : Int) := by
  have h := nat_join 8 (256 * b) a (by omega) (by omega)
  have hx : a ||| 256 * b = a + 256 * b := by rw [Nat.or_comm, h]; omega
  rw [show ((b : Int) * 256) = ((256 * b : Nat) : Int) by omega]
  show IntKind.i64.wrap ((BitVec.ofInt 64 (a : Int) ||| BitVec.ofInt 64 ((256 * b : Nat) : Int)).toNat : Int) = _
  rw [BitVec.toNat_or, ofInt_u64 a (by omega), ofInt_u64 (256 * b) (by omega), hx, IntKind.wrap_i64]
  omega

/-- What Clone leaves: the same bytes in new memory. -/
def Cloned (w : World) (xs : List UInt8) (e : Ending) (w' : World) : Prop :=
  ∃ A cap, e = .returned (.slice A xs.length cap) ∧ Go.Proofs.Ytpafimjdlbnckaa.Own w' w.heap.size 5 1 A xs.length cap (bv xs) ∧ Below w.heap.size w w'

theorem Own.made {w : World} {base e size : Nat} (h : base ≤ w.heap.size) : Go.Proofs.Ytpafimjdlbnckaa.Own (w.alloc (.cells #[] e)) base e size (some ⟨w.heap.size, 0, none⟩) 0 0 [] :=
  World.ownsRow_made w #[] 0 h (Nat.zero_le _) (by simp)

theorem Rd.none_nil {w : World} {B : Nat} {xs : List UInt8} (h : Rd w B none (bv xs)) : xs = [] := by
  cases xs with
  | nil => rfl
  | cons b l =>
    obtain ⟨_, h, _⟩ := h.byte (k := 0) (by simp)
    cases h

set_option maxHeartbeats 400000 in
theorem clone_any (xs : List UInt8) (A : Option Addr) (c B : Nat) (w : World) (hx : Rd w B A (bv xs)) (hB : B ≤ w.heap.size) (hn : xs.length ≤ 140737488355328) :
    Calls Try.prog 26 #[.slice A xs.length c] w (Cloned w xs) := by
  have hnil := fun (W : World) => Lib.run_eql_slice_nil (P := Try.prog) W 24 5 A xs.length c 0 0 Try.underlying24
  cases A with
  | none =>
    have hx0 := hx.none_nil
    have HX := Lib.hid hx0
    clear hx0
    go_enter Try.func26, Try.ntmps26
    go_wp2
    go_ret
    refine ⟨none, 0, ?_, ?_, Below.refl _ _⟩
    · rw [HX.out]
      rfl
    · rw [HX.out]
      exact Own.nil_ _ _ _ _
  | some a =>
    go_enter Try.func26, Try.ntmps26
    go_wp2_with (first
      | (at_builtin; refine wpList_app rfl (.tmp 5) (.tmp 6) 24 rfl w.heap.size 5 1 1 Try.el24 _ 0 0 [] rfl (Own.made (Nat.le_refl _)) B (some a) xs.length c (bv xs) rfl (hx.alloc hB _) (by simp [bv]) (bv_one xs) xs.length (bv xs) (by omega) rfl (by omega) (by unfold maxLen; omega) (by simp) ?_; intro A2 c2 w2 hown2 hg2 hat2)
      | fail)
    go_ret
    exact ⟨A2, c2, rfl, hown2, below_own ((Below.refl _ _).alloc (Nat.le_refl _) _) hg2 (Own.made (size := 1) (Nat.le_refl _)) (by simp)⟩

end Go.Proofs.Ytpafimjdlbnckaa
