/-
  The check sum as plain numbers: the program's way (eight steps a byte) and the document's (bit by bit) come to the same. No program in sight.
-/
import Derived.Test.YtbhjcfhpabnadaaMore
import Derived.Laws.BitsAllLaws
namespace Go.Proofs.Ytbhjcfhpabnadaa
open Go.RowKit

/-- One step of the program's inner loop. -/
def st (c : Nat) : Nat := (c / 2) ^^^ (if c % 2 = 1 then 2197175160 else 0)
def it : Nat → Nat → Nat
  | 0, c => c
  | n + 1, c => it n (st c)
/-- One byte. -/
def stB (c : Nat) (b : UInt8) : Nat := it 8 (c ^^^ b.toNat)
def raw (c : Nat) (p : List UInt8) : Nat := p.foldl stB c
def more (c : Nat) (p : List UInt8) : Nat := raw (c ^^^ 4294967295) p ^^^ 4294967295

/-- One bit, as the document has it. -/
def stR (c : Nat) (b : Bool) : Nat := (c / 2) ^^^ (if decide (c % 2 = 1) = b then 0 else 2197175160)
def bitsB (b : UInt8) : List Bool := (List.range 8).map fun j => decide (b.toNat / 2 ^ j % 2 = 1)
def bitsL (p : List UInt8) : List Bool := p.flatMap bitsB
def sumR (c : Nat) (p : List UInt8) : Nat := (bitsL p).foldl stR (c ^^^ 4294967295) ^^^ 4294967295

theorem st_lt {c : Nat} (h : c < 4294967296) : st c < 4294967296 := by
  unfold st
  exact Nat.xor_lt_two_pow (n := 32) (by omega) (by split <;> omega)
theorem it_lt : ∀ (n c : Nat), c < 4294967296 → it n c < 4294967296
  | 0, _, h => h
  | n + 1, _, h => it_lt n _ (st_lt h)
theorem u8_lt (b : UInt8) : b.toNat < 256 := b.toNat_lt
theorem xor_lt {a b : Nat} (ha : a < 4294967296) (hb : b < 4294967296) : a ^^^ b < 4294967296 := Nat.xor_lt_two_pow (n := 32) ha hb
theorem stB_lt {c : Nat} (b : UInt8) (h : c < 4294967296) : stB c b < 4294967296 := it_lt _ _ (xor_lt h (by have := u8_lt b; omega))
theorem raw_lt : ∀ (p : List UInt8) (c : Nat), c < 4294967296 → raw c p < 4294967296
  | [], _, h => h
  | b :: p, _, h => raw_lt p _ (stB_lt b h)
theorem more_lt {c : Nat} (p : List UInt8) (h : c < 4294967296) : more c p < 4294967296 := xor_lt (raw_lt p _ (xor_lt h (by omega))) (by omega)

theorem raw_append (c : Nat) (p q : List UInt8) : raw c (p ++ q) = raw (raw c p) q := by
  unfold raw
  rw [List.foldl_append]
theorem raw_snoc (c : Nat) (p : List UInt8) (b : UInt8) : raw c (p ++ [b]) = stB (raw c p) b := by rw [raw_append]; rfl
theorem xor_self_cancel (a b : Nat) : a ^^^ b ^^^ b = a := by rw [Nat.xor_assoc, Nat.xor_self, Nat.xor_zero]
/-- A sum can be made piece by piece. -/
theorem more_append (c : Nat) (p q : List UInt8) : more (more c p) q = more c (p ++ q) := by
  unfold more
  rw [xor_self_cancel, raw_append]

theorem xor_mod2 (a b : Nat) : (a ^^^ b) % 2 = (a % 2) ^^^ (b % 2) := Nat.xor_mod_two_pow (n := 1)
theorem xor_div2 (a b : Nat) : (a ^^^ b) / 2 = (a / 2) ^^^ (b / 2) := Nat.xor_div_two

theorem st_xor (x y : Nat) : st (x ^^^ y) = st (x ^^^ (y % 2)) ^^^ (y / 2) := by
  unfold st
  rw [xor_div2, xor_div2, xor_mod2, xor_mod2]
  have h1 : y % 2 / 2 = 0 := by omega
  have h2 : y % 2 % 2 = y % 2 := by omega
  rw [h1, h2, Nat.xor_zero, Nat.xor_assoc, Nat.xor_assoc, Nat.xor_comm (y / 2)]

theorem stR_eq (c y : Nat) : stR c (decide (y % 2 = 1)) = st (c ^^^ (y % 2)) := by
  unfold stR st
  rw [xor_div2, xor_mod2]
  have h1 : y % 2 / 2 = 0 := by omega
  have h2 : y % 2 % 2 = y % 2 := by omega
  rw [h1, h2, Nat.xor_zero]
  congr 1
  rcases Nat.mod_two_eq_zero_or_one c with hc | hc <;> rcases Nat.mod_two_eq_zero_or_one y with hy | hy <;> simp [hc, hy]

/-- The lowest n bits of y, fed one by one. -/
def feed : Nat → Nat → Nat → Nat
  | 0, c, _ => c
  | n + 1, c, y => feed n (stR c (decide (y % 2 = 1))) (y / 2)

theorem it_feed : ∀ (n c y : Nat), it n (c ^^^ y) = feed n c y ^^^ (y / 2 ^ n)
  | 0, c, y => by simp [it, feed]
  | n + 1, c, y => by
    rw [it, feed, st_xor, ← stR_eq, it_feed n, Nat.div_div_eq_div_mul, Nat.pow_succ, Nat.mul_comm]

theorem feed_bits (n c y : Nat) : feed n c y = ((List.range n).map fun j => decide (y / 2 ^ j % 2 = 1)).foldl stR c := by
  induction n generalizing c y with
  | zero => rfl
  | succ n ih =>
    rw [feed, ih, List.range_succ_eq_map, List.map_cons, List.foldl_cons, List.map_map]
    simp only [Nat.pow_zero, Nat.div_one]
    congr 1
    refine List.map_congr_left fun j _ => ?_
    simp only [Function.comp_apply, Nat.div_div_eq_div_mul, Nat.pow_succ, Nat.mul_comm]

theorem byte_eq (c : Nat) (b : UInt8) : (bitsB b).foldl stR c = stB c b := by
  unfold bitsB stB
  rw [it_feed, ← feed_bits, Nat.div_eq_of_lt (by have := u8_lt b; omega), Nat.xor_zero]

theorem raw_eq (p : List UInt8) (c : Nat) : (bitsL p).foldl stR c = raw c p := by
  induction p generalizing c with
  | nil => rfl
  | cons b p ih =>
    show (bitsB b ++ bitsL p).foldl stR c = raw (stB c b) p
    rw [List.foldl_append, byte_eq, ih]

/-- P1.1: the two ways come to the same. -/
theorem sum_eq (c : Nat) (p : List UInt8) : sumR c p = more c p := by
  unfold sumR more
  rw [raw_eq]

/-! The model's words for them. -/
theorem st_bits {m : Nat} (h : m < 4294967296) :
    bits .xor .u32 ((m : Int) / 2) (bits .and .u32 2197175160 (-bits .and .u32 (m : Int) 1 % 4294967296)) = ((st m : Nat) : Int) := by
  have e1 : bits .and .u32 (m : Int) 1 = ((m % 2 : Nat) : Int) := by
    have := u32_and_nat m 1 h (by omega)
    rw [nat_mask1] at this
    exact this
  rw [e1]
  have e3 : ((m : Int) / 2) = ((m / 2 : Nat) : Int) := by omega
  rw [e3]
  unfold st
  rcases Nat.mod_two_eq_zero_or_one m with hm | hm
  · rw [hm]
    have e2 : bits .and .u32 2197175160 (-((0 : Nat) : Int) % 4294967296) = ((0 : Nat) : Int) := by decide
    rw [e2, u32_xor_nat _ _ (by omega) (by omega), if_neg (by omega)]
  · rw [hm]
    have e2 : bits .and .u32 2197175160 (-((1 : Nat) : Int) % 4294967296) = ((2197175160 : Nat) : Int) := by decide
    rw [e2, u32_xor_nat _ _ (by omega) (by omega), if_pos rfl]

theorem byte_bits {m : Nat} (b : UInt8) (h : m < 4294967296) : bits .xor .u32 (m : Int) (b.toNat : Int) = ((m ^^^ b.toNat : Nat) : Int) := u32_xor_nat _ _ h (by have := u8_lt b; omega)

theorem not_bits {m : Nat} (h : m < 4294967296) : bits .xor .u32 IntKind.u32.max (m : Int) = ((m ^^^ 4294967295 : Nat) : Int) := by
  rw [Nat.xor_comm, show IntKind.u32.max = ((4294967295 : Nat) : Int) by decide]
  exact u32_xor_nat 4294967295 m (by omega) h

theorem ret_int {k : IntKind} {a b : Int} (h : a = b) : Ending.returned (.int k a) = .returned (.int k b) := by rw [h]

end Go.Proofs.Ytbhjcfhpabnadaa
