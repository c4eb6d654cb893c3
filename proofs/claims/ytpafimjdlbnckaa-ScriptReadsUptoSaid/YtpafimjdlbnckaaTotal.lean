/-
  The walk of ScriptTotal.
-/
import Derived.Test.YtpafimjdlbnckaaDecC
import Derived.Test.YtpafimjdlbnckaaSW
namespace Go.Proofs.Ytpafimjdlbnckaa
open Go.RowKit

theorem elB : Elem Try.prog 24 5 1 1 := Elem.of (z := .int .u8 0) Try.underlying24 (by kernel_rfl) rfl (by decide)

theorem encS_ge {s : St} (h : okS s) : s.data.length ≤ (encS s).length := by
  cases hc : carB s.op
  · have := h.2.2.2.2.2.2.2
    rcases Nat.eq_zero_or_pos s.data.length with h | h
    · omega
    · rw [this h] at hc; cases hc
  · rw [encS_len_car hc]; omega
theorem encL_mem {l : List St} {s : St} (h : s ∈ l) : (encS s).length ≤ (encL l).length := by
  induction l with
  | nil => cases h
  | cons x r ih =>
    rw [encL_cons, List.length_append]
    rcases List.mem_cons.1 h with rfl | h
    · omega
    · have := ih h; omega

set_option maxRecDepth 100000 in
set_option maxHeartbeats 2000000 in
theorem total_any (b : List UInt8) (n : Nat) (hn : n = b.length) (A : Option Addr) (c : Nat) (hl : n ≤ 1048576) (w : World) (hr : Rd w w.heap.size A (bv b)) :
    Calls Try.prog 6 #[.slice A n c] w fun e w' => e = .returned (.bool true) ∧ Below w.heap.size w w' := by
  obtain ⟨S, hS⟩ : ∃ S, S = steps b := ⟨_, rfl⟩
  obtain ⟨m, hm⟩ : ∃ m, m = S.length := ⟨_, rfl⟩
  obtain ⟨E, hE⟩ : ∃ E, E = encL S := ⟨_, rfl⟩
  obtain ⟨k, hk⟩ : ∃ k, k = E.length := ⟨_, rfl⟩
  have hml : m ≤ 1048576 := by rw [hm, hS]; have := steps_len b; omega
  have hkl : k ≤ 1048581 := by rw [hk, hE, hS]; have := steps_bulk _ b (Nat.le_refl _); omega
  have D1 := Lib.hid (fun (A : Option Addr) (c : Nat) (w : World) (hA : A = none → c = 0) (hc : n ≤ c) (hr : Rd w w.heap.size A (bv b)) => show Calls Try.prog 15 #[.slice A n c] w fun e w' => ∃ O c', e = .returned (.slice O m c') ∧ StAt w' w'.heap.size 4 O S ∧ Below w.heap.size w w' by
    rw [hm, hS]
    exact dec_at b n hn A c hA hc (by omega) w hr)
  have D2 := Lib.hid (fun (A : Option Addr) (c : Nat) (w : World) (hA : A = none → c = 0) (hc : k ≤ c) (hr : Rd w w.heap.size A (bv E)) => show Calls Try.prog 15 #[.slice A k c] w fun e w' => ∃ O c', e = .returned (.slice O m c') ∧ StAt w' w'.heap.size 4 O S ∧ Below w.heap.size w w' by
    have h := dec_at E k hk A c hA hc (by omega) w hr
    rw [hE, hS, steps_back] at h
    rw [hm, hS]
    exact h)
  have EN := Lib.hid (fun (A : Option Addr) (c B : Nat) (w : World) (hst : StAt w B 4 A S) (hB : B ≤ w.heap.size) => show Calls Try.prog 8 #[.slice A m c] w fun e w' => ∃ A' c', e = .returned (.tuple #[.slice A' k c', .int .i64 0]) ∧ Go.Proofs.Ytpafimjdlbnckaa.Own w' w.heap.size 5 1 A' k c' (bv E) ∧ Below w.heap.size w w' by
    have h := enc_good S m hm A c B w hst hB (by omega) (by rw [← hE, ← hk]; omega) (by rw [hS]; exact all_ok b)
    rw [← hE, ← hk] at h
    exact h)
  have hz : m = 0 ∧ n = 0 ∨ 0 < m ∧ 0 < n := by
    by_cases hb : b = []
    · left
      subst hb
      rw [hm, hS, hn]
      exact ⟨rfl, rfl⟩
    · right
      have h1 : 0 < b.length := List.length_pos_iff.2 hb
      have h2 : 0 < (steps b).length := List.length_pos_iff.2 (fun h => hb (steps_empty.1 h))
      rw [hm, hS, hn]
      exact ⟨h2, h1⟩
  have HKE := Lib.hid (show (encL S).length ≤ 1048581 by rw [← hE, ← hk]; exact hkl)
  have HOK := Lib.hid (show ∀ s ∈ S, okS s by rw [hS]; exact all_ok b)
  have HN := Lib.hid hn
  have HM := Lib.hid hm
  have tk : True := trivial
  clear hn hm hS hE hk
  have hdd : (!((m : Int) == 0) == ((n : Int) == 0)) = false := by
    rcases hz with ⟨h1, h2⟩ | ⟨h1, h2⟩
    · subst h1 h2; rfl
    · have e1 : ((m : Int) == 0) = false := by simp; omega
      have e2 : ((n : Int) == 0) = false := by simp; omega
      rw [e1, e2]; rfl
  clear hz
  go_enter Try.func6, Try.ntmps6
  go_wp2_with (first
    | (go_at_call 21; refine (awake_any _).mono ?_; rintro e w1 ⟨rfl, b1⟩)
    | (at_builtin; refine wpList_app rfl (.tmp 10) (.tmp 11) 24 rfl w1.heap.size 5 1 1 elB _ 0 0 [] rfl (Own.made (Nat.le_refl _)) w.heap.size A n c (bv b) rfl ((hr.below b1).alloc b1.size _) (by rw [bv_length]; exact HN.out.symm.trans (Nat.mul_one n).symm) (bv_one _) n (bv b) (Nat.zero_add _) rfl (by omega) (by unfold maxLen; omega) (by simp) ?_; intro A2 k2 w2 h2 hg2 at2; have d2 := below_own ((Below.refl w1.heap.size w1).alloc (Nat.le_refl _) _) hg2 (Own.made (size := 1) (Nat.le_refl _)) (by simp); have b2 := b1.trans (d2.mono b1.size))
    | (go_at_call 15; have _t := tk; refine (D1.out A2 k2 w2 (own_cap h2).1 (own_cap h2).2 h2.rd).mono ?_; rintro e w3 ⟨O, co, rfl, st3, d3⟩; clear tk _t; have b3 := b2.trans (d3.mono b2.size))
    | (go_at_call 8; refine (EN.out O co w3.heap.size w3 st3 (Nat.le_refl _)).mono ?_; rintro e w4 ⟨A4, c4, rfl, h4, d4⟩; have b4 := b3.trans (d4.mono b3.size); have st4 := st3.below d4)
    | (go_at_call 15; refine (D2.out A4 c4 w4 (own_cap h4).1 (own_cap h4).2 h4.rd).mono ?_; rintro e w5 ⟨O5, c5, rfl, st5, d5⟩; have b5 := b4.trans (d5.mono b4.size); have st6 := st4.below (d5.mono d4.size))
    | fail)
  go_loopw [7] (fun i wr => ∃ q : Nat, q ≤ m ∧ i = .int .i64 q ∧ Below w5.heap.size w5 wr) (fun i _ => m - (intOf i).toNat)
  case atStart => exact ⟨0, Nat.zero_le _, rfl, Below.refl _ _⟩
  case round =>
    obtain ⟨q, hq, rfl, hbq⟩ := hrel
    by_cases hlt : q < m
    · have hlt' : q < S.length := by rw [← HM.out]; exact hlt
      obtain ⟨G, o, D, d, rfl, hG, g0, g1, g2, g3, gr⟩ := st6.below (hbq.mono (Nat.le_trans d4.size d5.size)) q hlt'
      obtain ⟨H, o', D', d', rfl, hH, k0, k1, k2, k3, kr⟩ := st5.below hbq q hlt'
      obtain ⟨s, hs⟩ : ∃ s, s = S[q] := ⟨_, rfl⟩
      rw [← hs] at g0 g1 g2 g3 gr k0 k1 k2 k3 kr
      have hsd : s.data.length ≤ 1048581 := by
        have hin : s ∈ S := by rw [hs]; exact List.getElem_mem hlt'
        have h1 := encL_mem hin
        have h3 := encS_ge (HOK.out s hin)
        have h2 := HKE.out
        omega
      have hGw : G < wr.heap.size := Nat.lt_of_lt_of_le hG (Nat.le_trans (Nat.le_trans d4.size d5.size) hbq.size)
      have hHw : H < wr.heap.size := Nat.lt_of_lt_of_le hH hbq.size
      have hB1 : w3.heap.size ≤ wr.heap.size := Nat.le_trans (Nat.le_trans d4.size d5.size) hbq.size
      have hB2 : w5.heap.size ≤ wr.heap.size := hbq.size
      have hs0 : (0 : Int) ≤ (q : Int) := Int.natCast_nonneg _
      have hs1 : (q : Int) < (m : Int) := by omega
      clear hs st5 st6 hlt' D1 D2 EN HKE
      go_wp2_with fail
      go_region_held3 (fun w' => w'.cell? ⟨G, o + q * 4, none⟩ = some (.int .i64 s.op) ∧ w'.cell? ⟨G, o + q * 4 + 1, none⟩ = some (.int .i64 s.a) ∧ w'.cell? ⟨G, o + q * 4 + 2, none⟩ = some (.int .i64 s.b) ∧ w'.cell? ⟨G, o + q * 4 + 3, none⟩ = some (.slice D s.data.length d) ∧
          w'.cell? ⟨H, o' + q * 4, none⟩ = some (.int .i64 s.op) ∧ w'.cell? ⟨H, o' + q * 4 + 1, none⟩ = some (.int .i64 s.a) ∧ w'.cell? ⟨H, o' + q * 4 + 2, none⟩ = some (.int .i64 s.b) ∧ w'.cell? ⟨H, o' + q * 4 + 3, none⟩ = some (.slice D' s.data.length d'))
        (first
          | go_keep
          | (go_split_ands
             refine ⟨?_, ?_, ?_, ?_, ?_, ?_, ?_, ?_⟩
             all_goals ((rw [hb3.cell (by first | exact hGw | exact hHw)]); simp [*])))
        ((go_at_call 22; go_loud (refine (both_eq s.op s.a s.b s.data s.data.length rfl D D' d d' _ _ wr.drew gr kr hB1 hB2 (by omega)).mono ?_); rintro e w3 ⟨rfl, hb3⟩))
      go_wp2
      go_roundw
      case rel => exact ⟨q + 1, by omega, by go_num, hbq.trans (((Below.refl wr.heap.size wr).drew.trans hb3).mono hbq.size)⟩
      case measure => simp [intOf]; omega
    · obtain rfl : q = m := by omega
      go_wp2
      go_ret
      exact ⟨rfl, b5.trans (hbq.mono b5.size)⟩

end Go.Proofs.Ytpafimjdlbnckaa
