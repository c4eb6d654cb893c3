/-
  The walks of turnpikeref01's bits, Sum, Four.
-/
import Derived.Test.YtbhjcfhpabnadaaLeaf
namespace Go.Proofs.Ytbhjcfhpabnadaa
open Go.RowKit

theorem Try.el101 : Elem Try.prog 101 4 1 1 := Elem.of (z := .bool false) Try.underlying101 (by kernel_rfl) rfl (by decide)

def bb (l : List Bool) : List Value := l.map Value.bool

theorem bb_one (l : List Bool) : ∀ u ∈ bb l, u.oneCell' = true := by
  intro u hu
  simp only [bb, List.mem_map] at hu
  obtain ⟨b, _, rfl⟩ := hu
  rfl

theorem oneBool (b : Bool) : ∀ u ∈ (#[Value.bool b] : Array Value).toList, u.oneCell' = true := by simp [Value.oneCell']

def bitOf (y : UInt8) (j : Nat) : Bool := decide (y.toNat / 2 ^ j % 2 = 1)

theorem bit_eq (y : UInt8) (j : Nat) : (bits .and .u8 ((y.toNat : Int) / 2 ^ j) 1 == 1) = bitOf y j := by
  have h1 : ((y.toNat : Int) / 2 ^ j) = ((y.toNat / 2 ^ j : Nat) : Int) := by simp
  have h2 : y.toNat / 2 ^ j < 256 := Nat.lt_of_le_of_lt (Nat.div_le_self _ _) (u8_lt y)
  have h3 := u8_and_nat (y.toNat / 2 ^ j) 1 h2 (by omega)
  rw [nat_mask1] at h3
  rw [h1, show bits .and .u8 ((y.toNat / 2 ^ j : Nat) : Int) 1 = ((y.toNat / 2 ^ j % 2 : Nat) : Int) from h3]
  unfold bitOf
  rcases Nat.mod_two_eq_zero_or_one (y.toNat / 2 ^ j) with h | h <;> simp [h]

theorem bitsB_len (y : UInt8) : (bitsB y).length = 8 := by simp [bitsB]
theorem bitsB_take (y : UInt8) {j : Nat} (h : j < 8) : (bitsB y).take (j + 1) = (bitsB y).take j ++ [bitOf y j] := by
  rw [List.take_succ_eq_append_getElem (by rw [bitsB_len]; exact h)]
  simp [bitsB, bitOf]
theorem bitsL_take {xs : List UInt8} {k : Nat} (h : k < xs.length) : bitsL (xs.take (k + 1)) = bitsL (xs.take k) ++ bitsB xs[k] := by
  unfold bitsL
  rw [List.take_succ_eq_append_getElem h, List.flatMap_append, List.flatMap_singleton]
theorem bitsL_len (xs : List UInt8) : (bitsL xs).length = 8 * xs.length := by
  induction xs with
  | nil => rfl
  | cons b l ih =>
    show (bitsB b ++ bitsL l).length = _
    rw [List.length_append, ih, bitsB_len, List.length_cons]
    omega

def BitsOut (w : World) (xs : List UInt8) (e : Ending) (w' : World) : Prop :=
  ∃ A c, e = .returned (.slice A (8 * xs.length) c) ∧ Own w' w.heap.size 4 1 A (8 * xs.length) c (bb (bitsL xs)) ∧ Below w.heap.size w w'

set_option maxHeartbeats 400000 in
theorem bits_any (xs : List UInt8) (A : Option Addr) (c B : Nat) (w : World) (hx : Rd w B A (bv xs)) (hB : B ≤ w.heap.size) (hn : 8 * xs.length ≤ 140737488355328) :
    Calls Try.prog 57 #[.slice A xs.length c] w (BitsOut w xs) := by
  go_enter Try.func57, Try.ntmps57
  go_wp2
  go_loopw [3, 4] (fun v i wr => ∃ (k : Nat) (O : Option Addr) (co : Nat), k ≤ xs.length ∧ i = .int .i64 k ∧ v = .slice O (8 * k) co ∧ Own wr w.heap.size 4 1 O (8 * k) co (bb (bitsL (xs.take k))) ∧ Below w.heap.size w wr) (fun _ i _ => xs.length - (intOf i).toNat)
  case atStart => exact ⟨0, none, 0, Nat.zero_le _, rfl, rfl, Own.nil_ _ _ _ _, Below.refl _ _⟩
  case round =>
    obtain ⟨k, O, co, hk, rfl, rfl, hown, hbel⟩ := hrel
    by_cases hlt : k < xs.length
    · obtain ⟨b, o, rfl, hbB, hcells⟩ := hx.at_ (by omega)
      have hcell := hcells k hlt
      clear hcells
      obtain ⟨y, hy⟩ : ∃ y, y = xs[k] := ⟨_, rfl⟩
      rw [← hy] at hcell
      have HY := Lib.hid hy
      clear hy
      go_wp2
      go_loopw [3, 5] (fun v i wr => ∃ (j : Nat) (O : Option Addr) (co : Nat), j ≤ 8 ∧ i = .int .i64 j ∧ v = .slice O (8 * k + j) co ∧ Own wr w.heap.size 4 1 O (8 * k + j) co (bb (bitsL (xs.take k) ++ (bitsB y).take j)) ∧ Below w.heap.size w wr) (fun _ i _ => 8 - (intOf i).toNat)
      case atStart => exact ⟨0, O, co, Nat.zero_le _, rfl, rfl, by simpa using hown, hbel⟩
      case round =>
        obtain ⟨j, O, co, hj, rfl, rfl, hown, hbel⟩ := hrel
        by_cases hlj : j < 8
        · have hc2 := (hbel.cell (p := ⟨b, o + k, none⟩) (by exact Nat.lt_of_lt_of_le hbB hB)).trans hcell
          have hbit := bit_eq y j
          go_wp2_with (first
            | (at_builtin; refine wpList_app_new rfl (.tmp 16) (.tmp 26) 101 rfl w.heap.size 4 1 1 Try.el101 O (8 * k + j) co _ rfl hown _ wr.heap.size 1 1 (by simp) rfl rfl (oneBool _) (8 * k + j + 1) _ rfl rfl (by omega) (by unfold maxLen; omega) hbel.size ?_; intro O2 co2 w2 hown2 hg2 hat2)
            | fail)
          have b2 := below_own hbel hg2 hown hbel.size
          have h3 : Own w2 w.heap.size 4 1 O2 (8 * k + (j + 1)) co2 (bb (bitsL (xs.take k) ++ (bitsB y).take (j + 1))) := by
            rw [bitsB_take y hlj, ← List.append_assoc]
            simpa [bb, Nat.add_assoc] using hown2
          go_roundw
          case rel => exact ⟨j + 1, O2, co2, by omega, by go_num, rfl, h3, b2⟩
          case measure => simp [intOf]; omega
        · obtain rfl : j = 8 := by omega
          have h3 : Own wr w.heap.size 4 1 O (8 * (k + 1)) co (bb (bitsL (xs.take (k + 1)))) := by
            rw [bitsL_take hlt, ← HY.out, Nat.mul_add]
            rwa [List.take_of_length_le (l := bitsB y) (by rw [bitsB_len]; exact Nat.le_refl _)] at hown
          have HL := Lib.hid (show 8 * k + 8 = 8 * (k + 1) by omega)
          go_wp2
          go_roundw
          case rel => exact ⟨k + 1, O, co, by omega, by go_num, by rw [HL.out], h3, hbel⟩
          case measure => simp [intOf]; omega
    · obtain rfl : k = xs.length := by omega
      rw [List.take_length] at hown
      go_wp2
      go_ret
      exact ⟨O, co, rfl, hown, hbel⟩

/-- Sum's relation: after i bits. -/
def SumAt (c : Nat) (l : List Bool) (i n : Nat) : Prop := n = (l.take i).foldl stR (c ^^^ 4294967295)

theorem sumAt_succ {c : Nat} {l : List Bool} {i n : Nat} (h : i < l.length) (hn : SumAt c l i n) : SumAt c l (i + 1) (stR n l[i]) := by
  unfold SumAt at *
  rw [List.take_succ_eq_append_getElem h, List.foldl_append, ← hn]
  rfl

theorem stR_same {n : Nat} {b : Bool} (h : decide (n % 2 = 1) = b) : stR n b = n / 2 := by
  unfold stR
  rw [if_pos h, Nat.xor_zero]
theorem stR_other {n : Nat} {b : Bool} (h : ¬ decide (n % 2 = 1) = b) : stR n b = n / 2 ^^^ 2197175160 := by
  unfold stR
  rw [if_neg h]

theorem not_bits2 {m : Nat} (h : m < 4294967296) : bits .xor .u32 (m : Int) 4294967295 = ((m ^^^ 4294967295 : Nat) : Int) := u32_xor_nat m 4294967295 h (by omega)
theorem poly_bits {m : Nat} (h : m < 4294967296) : bits .xor .u32 ((m : Int) / 2) 2197175160 = ((m / 2 ^^^ 2197175160 : Nat) : Int) := by
  have h1 : ((m : Int) / 2) = ((m / 2 : Nat) : Int) := by omega
  rw [h1]
  exact u32_xor_nat (m / 2) 2197175160 (by omega) (by omega)

set_option maxHeartbeats 400000 in
theorem sum_any (c : Nat) (xs : List UInt8) (A : Option Addr) (k B : Nat) (w : World) (hx : Rd w B A (bv xs)) (hB : B ≤ w.heap.size) (hc : c < 4294967296) (hn : 8 * xs.length ≤ 140737488355328) :
    Calls Try.prog 24 #[.int .u32 c, .slice A xs.length k] w fun e w' => e = .returned (.int .u32 (more c xs : Nat)) ∧ Below w.heap.size w w' := by
  have hnot := not_bits2 hc
  have hl0 := xor_lt hc (show 4294967295 < 4294967296 by omega)
  obtain ⟨c0, hc0⟩ : ∃ c0, c0 = c ^^^ 4294967295 := ⟨_, rfl⟩
  rw [← hc0] at hnot hl0
  have HC := Lib.hid hc0
  clear hc0
  go_enter Try.func24, Try.ntmps24
  go_wp2_with (first
    | (go_at_call 57; refine (bits_any xs _ _ B _ hx hB hn).mono ?_; rintro e w1 ⟨O, co, rfl, hown, hbel⟩)
    | fail)
  have hlen := bitsL_len xs
  obtain ⟨l, hl⟩ : ∃ l, l = bitsL xs := ⟨_, rfl⟩
  rw [← hl] at hlen hown
  have HL := Lib.hid hl
  have HN := Lib.hid hlen
  clear hl hlen
  go_loop [0, 6] (fun v i => ∃ j n : Nat, j ≤ 8 * xs.length ∧ i = .int .i64 j ∧ v = .int .u32 n ∧ n < 4294967296 ∧ Hid (SumAt c l j n)) (fun _ i => 8 * xs.length - (intOf i).toNat)
  case atStart => exact ⟨0, c0, Nat.zero_le _, rfl, rfl, hl0, by simpa [Hid, SumAt] using HC.out⟩
  case round =>
    obtain ⟨j, n, hj, rfl, rfl, hn, hat⟩ := hrel
    clear hnot
    by_cases hlt : j < 8 * xs.length
    · have hjl : j < l.length := by rw [HN.out]; exact hlt
      obtain ⟨g, rfl, _, _, _⟩ := hown.form_pos (by omega)
      obtain ⟨a, ha, _, hcell⟩ := hown.rd j (.bool l[j]) (by simp [bb, hjl])
      injection ha with ha
      subst ha
      rw [Addr.add_lit, Nat.zero_add] at hcell
      have hpoly := poly_bits hn
      obtain ⟨q, hq⟩ : ∃ q, q = l[j] := ⟨_, rfl⟩
      rw [← hq] at hcell
      have hs := sumAt_succ hjl hat
      rw [← hq] at hs
      have HS := Lib.hid hs
      clear hq hs
      rcases Nat.mod_two_eq_zero_or_one n with hpar | hpar
      · have hp : ((n : Int) % 2 == 1) = false := by rw [beq_eq_false_iff_ne]; omega
        have HP := Lib.hid hpar
        clear hpar
        cases q
        · have HE := Lib.hid (stR_same (n := n) (b := false) (by simp [HP.out]))
          go_wp2
          go_round
          case rel => exact ⟨j + 1, n / 2, by omega, by go_num, by go_num, by omega, by rw [← HE.out]; exact HS.out⟩
          case measure => simp [intOf]; omega
        · have HE := Lib.hid (stR_other (n := n) (b := true) (by simp [HP.out]))
          have hlt3 := xor_lt (show n / 2 < 4294967296 by omega) (show 2197175160 < 4294967296 by omega)
          go_wp2
          go_round
          case rel => exact ⟨j + 1, _, by omega, by go_num, rfl, hlt3, by rw [← HE.out]; exact HS.out⟩
          case measure => simp [intOf]; omega
      · have hp : ((n : Int) % 2 == 1) = true := by rw [beq_iff_eq]; omega
        have HP := Lib.hid hpar
        clear hpar
        cases q
        · have HE := Lib.hid (stR_other (n := n) (b := false) (by simp [HP.out]))
          have hlt3 := xor_lt (show n / 2 < 4294967296 by omega) (show 2197175160 < 4294967296 by omega)
          go_wp2
          go_round
          case rel => exact ⟨j + 1, _, by omega, by go_num, rfl, hlt3, by rw [← HE.out]; exact HS.out⟩
          case measure => simp [intOf]; omega
        · have HE := Lib.hid (stR_same (n := n) (b := true) (by simp [HP.out]))
          go_wp2
          go_round
          case rel => exact ⟨j + 1, n / 2, by omega, by go_num, by go_num, by omega, by rw [← HE.out]; exact HS.out⟩
          case measure => simp [intOf]; omega
    · obtain rfl : j = 8 * xs.length := by omega
      have hnot := not_bits2 hn
      have hr : n = l.foldl stR (c ^^^ 4294967295) := by
        have := hat.out
        unfold SumAt at this
        rwa [List.take_of_length_le (by rw [HN.out]; exact Nat.le_refl _)] at this
      have HR := Lib.hid (show (n ^^^ 4294967295) = more c xs by rw [hr, HL.out, ← sum_eq]; rfl)
      clear hr
      go_wp2
      go_ret
      exact ⟨ret_int (by rw [HR.out]), hbel⟩

end Go.Proofs.Ytbhjcfhpabnadaa
