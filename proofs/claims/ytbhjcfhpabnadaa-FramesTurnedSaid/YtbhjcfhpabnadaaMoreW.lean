/-
  The walks of sum.More and sum.Crc.
-/
import Derived.Test.YtbhjcfhpabnadaaChecked
import Derived.Test.YtbhjcfhpabnadaaCrc
namespace Go.Proofs.Ytbhjcfhpabnadaa
open Go.RowKit

/-- After k bytes. -/
def MoreAt (c : Nat) (xs : List UInt8) (k n : Nat) : Prop := n = raw (c ^^^ 4294967295) (xs.take k)
/-- After j of the eight steps. -/
def StepAt (x j m : Nat) : Prop := it (8 - j) m = it 8 x ∧ m < 4294967296

theorem moreAt_succ {c : Nat} {xs : List UInt8} {k n : Nat} (h : k < xs.length) (hn : MoreAt c xs k n) : MoreAt c xs (k + 1) (it 8 (n ^^^ xs[k].toNat)) := by
  unfold MoreAt at *
  rw [List.take_succ_eq_append_getElem h, raw_snoc, ← hn]
  rfl
theorem stepAt_succ {x j m : Nat} (hj : j < 8) (h : StepAt x j m) : StepAt x (j + 1) (st m) := by
  obtain ⟨h1, h2⟩ := h
  refine ⟨?_, st_lt h2⟩
  rw [show 8 - j = (8 - (j + 1)) + 1 by omega] at h1
  exact h1

set_option maxHeartbeats 400000 in
theorem more_any (c : Nat) (xs : List UInt8) (A : Option Addr) (k B : Nat) (w : World) (hx : Rd w B A (bv xs)) (hc : c < 4294967296) (hl : xs.length ≤ 9223372036854775807) :
    Calls Try.prog 25 #[.int .u32 c, .slice A xs.length k] w fun e w' => e = .returned (.int .u32 (more c xs : Nat)) ∧ w = w' := by
  have hnot := not_bits hc
  have hl0 := xor_lt hc (show 4294967295 < 4294967296 by omega)
  obtain ⟨c0, hc0⟩ : ∃ c0, c0 = c ^^^ 4294967295 := ⟨_, rfl⟩
  rw [← hc0] at hnot hl0
  have HC := Lib.hid hc0
  clear hc0
  go_enter Try.func25, Try.ntmps25
  go_wp2
  go_loop [0, 11] (fun v i => ∃ k n : Nat, k ≤ xs.length ∧ i = .int .i64 k ∧ v = .int .u32 n ∧ n < 4294967296 ∧ Hid (MoreAt c xs k n)) (fun _ i => xs.length - (intOf i).toNat)
  case atStart => exact ⟨0, c0, Nat.zero_le _, rfl, rfl, hl0, by simpa [Hid, MoreAt, raw] using HC.out⟩
  case round =>
    obtain ⟨k, n, hk, rfl, rfl, hn, hat⟩ := hrel
    clear hnot
    by_cases hlt : k < xs.length
    · obtain ⟨a, rfl, _, hcell⟩ := hx.byte hlt
      have hby := byte_bits xs[k] hn
      have hub := u8_lt xs[k]
      have hxl := xor_lt hn (show xs[k].toNat < 4294967296 by omega)
      obtain ⟨x, hx0⟩ : ∃ x, x = n ^^^ xs[k].toNat := ⟨_, rfl⟩
      rw [← hx0] at hby hxl
      have HX := Lib.hid hx0
      clear hx0
      go_wp2
      go_loop [0, 19] (fun v i => ∃ j m : Nat, j ≤ 8 ∧ i = .int .i64 j ∧ v = .int .u32 m ∧ m < 4294967296 ∧ Hid (StepAt x j m)) (fun _ i => 8 - (intOf i).toNat)
      case atStart => exact ⟨0, x, Nat.zero_le _, rfl, rfl, hxl, ⟨rfl, hxl⟩⟩
      case round =>
        obtain ⟨j, m, hj, rfl, rfl, hm, hst⟩ := hrel
        by_cases hlj : j < 8
        · have hb := st_bits hm
          clear hby
          go_wp2
          go_round
          case rel => exact ⟨j + 1, st m, by omega, by go_num, rfl, st_lt hm, stepAt_succ hlj hst⟩
          case measure => simp [intOf]; omega
        · obtain rfl : j = 8 := by omega
          have HM := Lib.hid (show m = it 8 x from hst.1)
          clear hby
          go_wp2
          go_round
          case rel => exact ⟨k + 1, m, by omega, by go_num, rfl, hm, by rw [HM.out, HX.out]; exact moreAt_succ hlt hat⟩
          case measure => simp [intOf]; omega
    · obtain rfl : k = xs.length := by omega
      have hnot := not_bits hn
      go_wp2
      go_ret
      have hr : n = raw (c ^^^ 4294967295) xs := by simpa [MoreAt] using hat.out
      exact ⟨ret_int (by rw [hr]; rfl), rfl⟩

theorem crc_any (xs : List UInt8) (A : Option Addr) (k B : Nat) (w : World) (hx : Rd w B A (bv xs)) (hl : xs.length ≤ 9223372036854775807) :
    Calls Try.prog 23 #[.slice A xs.length k] w fun e w' => e = .returned (.int .u32 (more 0 xs : Nat)) ∧ w = w' := by
  go_enter Try.func23, Try.ntmps23
  go_wp2_with (first | (go_at_call 25; refine (more_any 0 xs _ _ _ _ hx (by omega) hl).mono ?_; rintro e w1 ⟨rfl, rfl⟩) | fail)
  go_ret
  exact ⟨rfl, rfl⟩

end Go.Proofs.Ytbhjcfhpabnadaa
