/-
  The walk of frames.cut.
-/
import Derived.Test.YtbhjcfhpabnadaaFW
namespace Go.Proofs.Ytbhjcfhpabnadaa
open Go.RowKit

/-- Bytes as a number, the greatest first. -/
def be (l : List UInt8) : Nat := l.foldl (fun a b => a * 256 + b.toNat) 0
theorem be_snoc (l : List UInt8) (x : UInt8) : be (l ++ [x]) = be l * 256 + x.toNat := by simp [be]
theorem be_nil : be [] = 0 := rfl
theorem be_lt : ∀ (n : Nat) (l : List UInt8), l.length = n → be l < 256 ^ n := by
  intro n
  induction n with
  | zero => intro l h; obtain rfl := List.eq_nil_of_length_eq_zero h; simp [be]
  | succ n ih =>
    intro l h
    have hne : l ≠ [] := by intro e; subst e; simp at h
    have h1 := List.dropLast_concat_getLast hne
    rw [← h1, be_snoc]
    have h2 := ih l.dropLast (by simp [h])
    have h3 := (l.getLast hne).toNat_lt
    rw [Nat.pow_succ]
    omega

theorem or_low {X c : Nat} (hX : X < 18446744073709551616) (h0 : X % 256 = 0) (hc : c < 256) : X ||| c = X + c := by
  obtain ⟨k, hk⟩ : ∃ k, X = 256 * k := ⟨X / 256, by omega⟩
  subst hk
  have := Nat.two_pow_add_eq_or_of_lt (i := 8) (a := k) (b := c) (by omega)
  rw [show (2 : Nat) ^ 8 * k = 256 * k by omega] at this
  exact this.symm

theorem ofInt_mod (x : Int) (X : Nat) (h : x % 18446744073709551616 = (X : Int)) : (BitVec.ofInt 64 x).toNat = X := by
  rw [BitVec.toNat_ofInt]
  have : ((2 ^ 64 : Nat) : Int) = 18446744073709551616 := rfl
  rw [this, h]
  rfl

/-- One step of cut: eight bits more. -/
theorem cut_or {x : Int} {N c : Nat} (hx : x = IntKind.i64.wrap (IntKind.i64.wrap (N : Int) * 256)) (hc : c < 256) : bits .or .i64 x (c : Int) = IntKind.i64.wrap ((N * 256 + c : Nat) : Int) := by
  obtain ⟨X, hX⟩ : ∃ X : Nat, X = N * 256 % 18446744073709551616 := ⟨_, rfl⟩
  have h1 : x % 18446744073709551616 = (X : Int) := by
    rw [hx, IntKind.wrap_i64, IntKind.wrap_i64, hX]
    omega
  show IntKind.i64.wrap ((BitVec.ofInt 64 x ||| BitVec.ofInt 64 (c : Int)).toNat : Int) = _
  rw [BitVec.toNat_or, ofInt_mod x X h1, ofInt_mod (c : Int) c (by omega), or_low (by omega) (by omega) hc, IntKind.wrap_i64, IntKind.wrap_i64]
  omega

/-- What cut leaves. -/
def CutOut (w : World) (A : Option Addr) (c : Nat) (b : List UInt8) (s : Nat) (e : Ending) (w' : World) : Prop :=
  ∃ k, w' = w.drewN k ∧ if b.length < s then e = .returned (.tuple #[.int .i64 0, .slice none 0 0, .bool false])
    else ∃ S, e = .returned (.tuple #[.int .i64 (IntKind.i64.wrap (be (b.take s))), .slice S (b.length - s) (c - s), .bool true]) ∧ S = (if c = s then A else A.map (·.add s))

set_option maxHeartbeats 1000000 in
theorem cut1_any (b : List UInt8) (n : Nat) (hn : n = b.length) (s : Nat) (hs : s ≤ 8) (A : Option Addr) (c : Nat) (hc : n ≤ c) (B : Nat) (w : World) (hr : Rd w B A (bv b)) (hl : n ≤ 140737756790784) :
    Calls Try.prog 61 #[.slice A n c, .int .i64 s] w (CutOut w A c b s) := by
  have HN := Lib.hid hn
  clear hn
  by_cases hlt : n < s
  · go_enter Try.func61, Try.ntmps61
    go_wp2
    go_ret3
    refine ⟨0, rfl, ?_⟩
    rw [if_pos (by rw [← HN.out]; exact hlt)]
    rfl
  · have hs0 : (0 : Int) ≤ (s : Int) := Int.natCast_nonneg _
    have hsc : (s : Int) ≤ (c : Int) := by omega
    go_enter Try.func61, Try.ntmps61
    go_wp2
    go_loop [7, 18] (fun v i => ∃ t : Nat, t ≤ s ∧ i = .int .i64 t ∧ v = .int .i64 (IntKind.i64.wrap (be (b.take t)))) (fun _ i => s - (intOf i).toNat)
    case atStart => exact ⟨0, Nat.zero_le _, rfl, rfl⟩
    case round =>
      obtain ⟨t, ht, rfl, rfl⟩ := hrel
      by_cases hts : t < s
      · obtain ⟨a, rfl, _, hcell⟩ := hr.byte (k := t) (show t < b.length by have := HN.out; omega)
        obtain ⟨y, hy⟩ : ∃ y, y = b[t]'(by have := HN.out; omega) := ⟨_, rfl⟩
        rw [← hy] at hcell
        have hub : y.toNat < 256 := y.toNat_lt
        obtain ⟨N, hN⟩ : ∃ N, N = be (b.take t) := ⟨_, rfl⟩
        rw [← hN]
        have HY := Lib.hid hy
        have HNN := Lib.hid hN
        clear hy hN
        go_wp2
        go_round
        case rel =>
          refine ⟨t + 1, by omega, by go_num, ?_⟩
          rw [List.take_succ_eq_append_getElem (by have := HN.out; omega), be_snoc, ← HNN.out, ← HY.out]
          exact congrArg (Value.int IntKind.i64) (cut_or (by unfold wrap64; rw [IntKind.wrap_i64, IntKind.wrap_i64]) hub)
        case measure =>
          show s - (intOf (.int .i64 ((t : Int) + 1))).toNat < s - (intOf (.int .i64 (t : Int))).toNat
          simp only [intOf]
          omega
      · obtain rfl : t = s := by omega
        obtain ⟨S, hS⟩ : ∃ S, S = (if c = t then A else A.map (·.add t)) := ⟨_, rfl⟩
        have hS2 := hS.symm
        obtain ⟨V, hV⟩ : ∃ V, V = IntKind.i64.wrap (be (b.take t)) := ⟨_, rfl⟩
        rw [← hV]
        have HS := Lib.hid hS
        have HV := Lib.hid hV
        clear hS hV
        go_wp2
        go_quiet (fail)
        go_wp2
        go_ret3
        refine ⟨nq, rfl, ?_⟩
        rw [if_neg (by rw [← HN.out]; exact hlt)]
        exact ⟨S, by rw [HV.out, HN.out]; rfl, HS.out⟩

/-- cut where there are enough bytes. -/
theorem cut_ok (b : List UInt8) (n : Nat) (hn : n = b.length) (s : Nat) (si : Int) (hsi : si = s) (hs : s ≤ 8) (r : Nat) (hr : n = s + r) (V : Int) (hV : V = IntKind.i64.wrap (be (b.take s))) (A : Option Addr) (c : Nat) (hA : A = none → c = 0) (hc : n ≤ c) (B : Nat) (w : World) (hrd : Rd w B A (bv b)) (hl : n ≤ 140737756790784) :
    Calls Try.prog 61 #[.slice A n c, .int .i64 si] w fun e w' => ∃ k S c', w' = w.drewN k ∧ e = .returned (.tuple #[.int .i64 V, .slice S r c', .bool true]) ∧ Rd w B S (bv (b.drop s)) ∧ (S = none → c' = 0) ∧ r ≤ c' := by
  subst hsi hV
  refine (cut1_any b n hn s hs A c hc B w hrd hl).mono ?_
  rintro e w' ⟨k, rfl, h⟩
  rw [if_neg (by omega)] at h
  obtain ⟨S, rfl, hS⟩ := h
  have hbr : b.length - s = r := by omega
  rw [hbr]
  refine ⟨k, S, c - s, rfl, rfl, ?_, ?_, by omega⟩
  · have h1 := hrd.cut s c (by rw [bv_length]; omega)
    rw [← hS] at h1
    simpa [bv, List.map_drop] using h1
  · intro hn0
    rw [hS] at hn0
    split at hn0
    · rw [hA hn0]; omega
    · cases A with
      | none => rw [hA rfl]; omega
      | some a => cases hn0
/-- cut where there are too few. -/
theorem cut_no (b : List UInt8) (n : Nat) (hn : n = b.length) (s : Nat) (si : Int) (hsi : si = s) (hs : s ≤ 8) (hr : n < s) (A : Option Addr) (c : Nat) (hc : n ≤ c) (B : Nat) (w : World) (hrd : Rd w B A (bv b)) (hl : n ≤ 140737756790784) :
    Calls Try.prog 61 #[.slice A n c, .int .i64 si] w fun e w' => ∃ k, w' = w.drewN k ∧ e = .returned (.tuple #[.int .i64 0, .slice none 0 0, .bool false]) := by
  subst hsi
  refine (cut1_any b n hn s hs A c hc B w hrd hl).mono ?_
  rintro e w' ⟨k, rfl, h⟩
  rw [if_pos (by omega)] at h
  exact ⟨k, rfl, h⟩

end Go.Proofs.Ytbhjcfhpabnadaa
