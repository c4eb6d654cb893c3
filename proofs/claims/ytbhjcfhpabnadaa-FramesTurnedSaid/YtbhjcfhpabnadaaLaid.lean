/-
  The walks of turnpikeref19's laid and may.
-/
import Derived.Test.YtbhjcfhpabnadaaAwake
namespace Go.Proofs.Ytbhjcfhpabnadaa
open Go.RowKit

/-- A number's byte i, from the least. -/
def digit (N i : Nat) : UInt8 := UInt8.ofNat (N / 2 ^ (8 * i) % 256)
/-- A number in s bytes, the greatest first. -/
def beN (N s : Nat) : List UInt8 := (List.range s).map fun j => digit N (s - 1 - j)
theorem beN_len (N s : Nat) : (beN N s).length = s := by simp [beN]
theorem beN_take {N s t : Nat} (h : t < s) : (beN N s).take (t + 1) = (beN N s).take t ++ [digit N (s - 1 - t)] := by
  rw [List.take_succ_eq_append_getElem (by rw [beN_len]; exact h)]
  simp [beN]
theorem digit_val (N i : Nat) : ((digit N i).toNat : Int) = (N : Int) / 2 ^ (8 * i) % 256 := by
  unfold digit
  rw [ofNat_val (Nat.mod_lt _ (by omega))]
  simp

def mayS (n : Int) : Bool := decide (0 ≤ n) && decide (n ≤ 4611686018427387904)
theorem may_any (n : Int) (w : World) : Calls Try.prog 69 #[.int .i64 n] w fun e w' => e = .returned (.bool (mayS n)) ∧ w = w' := by
  by_cases h : 0 ≤ n
  · by_cases h2 : n ≤ 4611686018427387904
    all_goals
      go_enter Try.func69, Try.ntmps69
      go_wp2
      go_ret
      exact ⟨by simp [mayS, h, h2], rfl⟩
  · go_enter Try.func69, Try.ntmps69
    go_wp2
    go_ret
    exact ⟨by rw [mayS, decide_eq_false (show ¬ 0 ≤ n by omega)]; rfl, rfl⟩

theorem oneU8 (x : Int) : ∀ u ∈ (#[Value.int .u8 x] : Array Value).toList, u.oneCell' = true := by simp [Value.oneCell']

set_option maxHeartbeats 400000 in
theorem laid_any (n : Int) (N s : Nat) (hN : (N : Int) = n % 18446744073709551616) (hs : s ≤ 8) (w : World) :
    Calls Try.prog 68 #[.int .i64 n, .int .i64 s] w fun e w' => ∃ A c, e = .returned (.slice A s c) ∧ Own w' w.heap.size 5 1 A s c (bv (beN N s)) ∧ Below w.heap.size w w' := by
  have hw : IntKind.u64.wrap n = (N : Int) := by rw [hN]; rfl
  go_enter Try.func68, Try.ntmps68
  go_wp2
  go_loopw [5, 6] (fun v i wr => ∃ (t : Nat) (O : Option Addr) (co : Nat), t ≤ s ∧ i = .int .i64 ((s : Int) - 1 - t) ∧ v = .slice O t co ∧ Own wr w.heap.size 5 1 O t co (bv ((beN N s).take t)) ∧ Below w.heap.size w wr) (fun _ i _ => (intOf i + 1).toNat)
  case atStart => exact ⟨0, none, 0, Nat.zero_le _, by simp, rfl, Own.nil_ _ _ _ _, Below.refl _ _⟩
  case round =>
    obtain ⟨t, O, co, ht, rfl, rfl, hown, hbel⟩ := hrel
    by_cases hlt : t < s
    · obtain ⟨i, hi⟩ : ∃ i : Nat, i = s - 1 - t := ⟨_, rfl⟩
      have hi2 : (s : Int) - 1 - t = (i : Int) := by omega
      have hi8 : i < 8 := by omega
      rw [hi2]
      have HD := Lib.hid (digit_val N i)
      have HI := Lib.hid hi
      clear hi hi2
      go_wp2_with (first
        | (at_builtin; go_loud (refine wpList_app_new rfl (.tmp 13) (.tmp 21) 22 rfl w.heap.size 5 1 1 Try.el22 O t co _ rfl hown _ wr.heap.size 1 1 (by simp) rfl rfl (oneU8 _) (t + 1) _ rfl rfl (by omega) (by unfold maxLen; omega) hbel.size ?_); intro O2 co2 w2 hown2 hg2 hat2)
        | fail)
      have b2 := below_own hbel hg2 hown hbel.size
      have h3 : Own w2 w.heap.size 5 1 O2 (t + 1) co2 (bv ((beN N s).take (t + 1))) := by
        rw [beN_take hlt, bv_append, ← HI.out]
        show Own w2 w.heap.size 5 1 O2 (t + 1) co2 (bv ((beN N s).take t) ++ [.int .u8 ((digit N i).toNat : Int)])
        rw [HD.out, hN]
        exact hown2
      go_roundw
      case rel => exact ⟨t + 1, O2, co2, by omega, by have := HI.out; go_num, rfl, h3, b2⟩
      case measure => have := HI.out; simp [intOf] <;> omega
    · obtain rfl : t = s := by omega
      rw [List.take_of_length_le (by rw [beN_len]; exact Nat.le_refl _)] at hown
      have hneg : (t : Int) - 1 - t = -1 := by omega
      rw [hneg]
      go_wp2
      go_ret
      exact ⟨O, co, rfl, hown, hbel⟩

end Go.Proofs.Ytbhjcfhpabnadaa
