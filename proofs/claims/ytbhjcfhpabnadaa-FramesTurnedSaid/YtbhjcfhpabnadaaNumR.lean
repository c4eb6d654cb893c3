/-
  The walks of turnpikeref19's number and text.
-/
import Derived.Test.YtbhjcfhpabnadaaCutW
namespace Go.Proofs.Ytbhjcfhpabnadaa
open Go.RowKit

def numS (b : List UInt8) (a s : Nat) : Int := if be ((b.drop a).take s) > 4611686018427387904 then 4611686018427387905 else (be ((b.drop a).take s) : Int)

theorem pow256 {t : Nat} (h : t ≤ 7) : 256 ^ t ≤ 72057594037927936 := by
  have := Nat.pow_le_pow_right (show 0 < 256 by omega) h
  simpa using this

set_option maxHeartbeats 1000000 in
theorem num63_any (b : List UInt8) (n : Nat) (hn : n = b.length) (p s : Nat) (hs : s ≤ 8) (hp : p ≤ 16777216) (A : Option Addr) (c : Nat) (B : Nat) (w : World) (hr : Rd w B A (bv b)) (hl : n ≤ 140737756790784) :
    Calls Try.prog 63 #[.slice A n c, .int .i64 p, .int .i64 s] w fun e w' => e = .returned (.int .i64 (numS b p s)) ∧ w = w' := by
  have HN := Lib.hid hn
  clear hn
  go_enter Try.func63, Try.ntmps63
  go_wp2
  go_loop [7, 8] (fun v i => ∃ (t q : Nat), t ≤ s ∧ (t = 0 ∨ p + t ≤ n) ∧ i = .int .i64 q ∧ Hid (q = p + t) ∧ v = .int .u64 (be ((b.drop p).take t))) (fun _ i => p + s - (intOf i).toNat)
  case atStart => exact ⟨0, p, Nat.zero_le _, .inl rfl, rfl, rfl, rfl⟩
  case round =>
    obtain ⟨t, q, ht, htn, rfl, hq, rfl⟩ := hrel
    by_cases hgo : t < s ∧ p + t < n
    · obtain ⟨h1, h2⟩ := hgo
      have hqn : q < n := by rw [hq.out]; exact h2
      have hqs : (q : Int) < (p : Int) + (s : Int) := by have := hq.out; omega
      have hq2 : q < 33554432 := by omega
      have hqs2 : q < p + s := by have := hq.out; omega
      obtain ⟨a, rfl, _, hcell⟩ := hr.byte (k := q) (show q < b.length by have := HN.out; omega)
      obtain ⟨y, hy⟩ : ∃ y, y = b[q]'(by have := HN.out; omega) := ⟨_, rfl⟩
      rw [← hy] at hcell
      have hub : y.toNat < 256 := y.toNat_lt
      have hbe := be_lt t ((b.drop p).take t) (by rw [List.length_take, List.length_drop, ← HN.out]; omega)
      have hpw := pow256 (t := t) (by omega)
      obtain ⟨N, hN⟩ : ∃ N, N = be ((b.drop p).take t) := ⟨_, rfl⟩
      rw [← hN] at hbe ⊢
      have hNb : N < 72057594037927936 := by omega
      have HY := Lib.hid hy
      have HNN := Lib.hid hN
      have HT := Lib.hid h1
      clear hy hN hbe hpw htn h2
      go_wp2
      go_round
      case rel =>
        refine ⟨t + 1, q + 1, by omega, .inr (by have := hq.out; omega), by go_num, by have := hq.out; show q + 1 = p + (t + 1); omega, ?_⟩
        have hjd : t < (b.drop p).length := by rw [List.length_drop, ← HN.out]; have := hq.out; omega
        have hg : (b.drop p)[t] = y := by rw [List.getElem_drop, HY.out]; congr 1; exact hq.out.symm
        rw [List.take_succ_eq_append_getElem hjd, be_snoc, ← HNN.out, hg]
        refine congrArg (Value.int IntKind.u64) ?_
        omega
      case measure =>
        show p + s - (intOf (.int .i64 ((q : Int) + 1))).toNat < p + s - (intOf (.int .i64 (q : Int))).toNat
        simp only [intOf]
        omega
    · have hall : (b.drop p).take s = (b.drop p).take t := by
        by_cases h1 : t < s
        · have h2 : (b.drop p).length ≤ t := by rw [List.length_drop, ← HN.out]; omega
          rw [List.take_of_length_le (by omega), List.take_of_length_le h2]
        · rw [show t = s by omega]
      have hbe := be_lt ((b.drop p).take t).length ((b.drop p).take t) rfl
      have hpw : 256 ^ ((b.drop p).take t).length ≤ 18446744073709551616 := by
        have := Nat.pow_le_pow_right (show 0 < 256 by omega) (show ((b.drop p).take t).length ≤ 8 by rw [List.length_take]; omega)
        simpa using this
      have hres : numS b p s = if be ((b.drop p).take t) > 4611686018427387904 then 4611686018427387905 else (be ((b.drop p).take t) : Int) := by unfold numS; rw [hall]
      obtain ⟨N, hN⟩ : ∃ N, N = be ((b.drop p).take t) := ⟨_, rfl⟩
      rw [← hN] at hbe hres ⊢
      have hNb : N < 18446744073709551616 := by omega
      have HR := Lib.hid hres
      have hcs : (¬ (q : Int) < (p : Int) + (s : Int)) ∨ ((q : Int) < (p : Int) + (s : Int) ∧ ¬ q < n) := by have := hq.out; omega
      have hq2 : q ≤ 33554432 := by have := hq.out; omega
      clear hN hbe hpw hres hall hgo htn
      by_cases hbig : 4611686018427387904 < N
      all_goals
        rcases hcs with hcs | ⟨hcs, hcs2⟩
        all_goals
          go_wp2
          go_ret
          refine ⟨ret_int ?_, rfl⟩
          rw [HR.out]
          first
            | rw [if_pos hbig]
            | rw [if_neg hbig]

set_option maxHeartbeats 1000000 in
theorem text70_any (b : List UInt8) (n : Nat) (hn : n = b.length) (p s : Nat) (hs : s ≤ 16777216) (hp : p ≤ 16777216) (A : Option Addr) (c : Nat) (hc : n ≤ c) (B : Nat) (w : World) (hr : Rd w B A (bv b)) (hl : n ≤ 16777216) :
    Calls Try.prog 70 #[.slice A n c, .int .i64 p, .int .i64 s] w fun e w' => e = .returned (.string (str ((b.drop p).take s))) ∧ w = w' := by
  have HN := Lib.hid hn
  clear hn
  by_cases hpn : n < p
  · have hI : (n : Int) < (p : Int) := by omega
    have he : (b.drop p).take s = [] := by rw [List.drop_of_length_le (by rw [← HN.out]; omega)]; simp
    rw [he]
    go_enter Try.func70, Try.ntmps70
    go_wp2
    go_ret
    exact ⟨rfl, rfl⟩
  · obtain ⟨r, hr2⟩ : ∃ r, n = p + r := ⟨n - p, by omega⟩
    have hnI : ¬ (n : Int) < (p : Int) := by omega
    have hsub : (n : Int) - (p : Int) = (r : Int) := by omega
    obtain ⟨m, hm⟩ : ∃ m, m = min s r := ⟨_, rfl⟩
    obtain ⟨D, hD⟩ : ∃ D, D = (b.drop p).take s := ⟨_, rfl⟩
    have hDm : D = (b.drop p).take m := by
      rw [hD, hm]
      rcases Nat.le_total s r with h | h
      · rw [Nat.min_eq_left h]
      · have hl2 : (b.drop p).length = r := by rw [List.length_drop, ← HN.out]; omega
        rw [Nat.min_eq_right h, List.take_of_length_le (by omega), List.take_of_length_le (by omega)]
    have hml : m = D.length := by rw [hDm, List.length_take, List.length_drop, ← HN.out]; omega
    obtain ⟨S, hS⟩ : ∃ S, S = (if c = p then A else A.map (·.add p)) := ⟨_, rfl⟩
    have hrd : Rd w B S (bv D) := by
      have h1 := (hr.cut p c (by rw [bv_length, ← HN.out]; exact hc)).take m
      rw [← hS] at h1
      rw [hDm]
      simpa [bv, List.map_take, List.map_drop] using h1
    have hS2 := hS.symm
    have cv := conv_any hrd m hml (c - p)
    rw [← hD]
    obtain ⟨pe, hpe⟩ : ∃ pe, pe = p + m := ⟨_, rfl⟩
    have hsum : (p : Int) + (m : Int) = (pe : Int) := by omega
    have hpem : pe - p = m := by omega
    have hpec : (pe : Int) ≤ (c : Int) := by omega
    have hppe : (p : Int) ≤ (pe : Int) := by omega
    have hpeb : pe ≤ 33554432 := by omega
    have hp0 : (0 : Int) ≤ (p : Int) := Int.natCast_nonneg _
    have hpc : (p : Int) ≤ (c : Int) := by omega
    have hcs : (m = s ∧ ¬ (r : Int) < (s : Int)) ∨ (m = r ∧ (r : Int) < (s : Int)) := by omega
    clear hD hDm hml hS hrd hm hpe hr2
    rcases hcs with ⟨rfl, hcs⟩ | ⟨rfl, hcs⟩
    all_goals
      go_enter Try.func70, Try.ntmps70
      go_wp2
      go_ret
      exact ⟨rfl, rfl⟩

end Go.Proofs.Ytbhjcfhpabnadaa
