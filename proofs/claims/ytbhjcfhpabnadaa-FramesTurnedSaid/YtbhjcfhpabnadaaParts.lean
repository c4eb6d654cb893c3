/-
  The walk of SumParts.
-/
import Derived.Test.YtbhjcfhpabnadaaAwake
namespace Go.Proofs.Ytbhjcfhpabnadaa
open Go.RowKit

theorem round_at (a : Int) (N : Nat) (w : World) (hn2 : N < 9223372036854775807) :
    Calls Try.prog 31 #[.int .i64 a, .int .i64 ((N : Int) + 1)] w fun e w' => (∃ k : Nat, k ≤ N ∧ e = .returned (.int .i64 k)) ∧ w = w' := by
  have h := round_any a (N + 1) w (by omega) (by omega)
  refine Calls.mono (by simpa using h) ?_
  rintro e w' ⟨⟨k, hk, he⟩, hw⟩
  exact ⟨⟨k, by omega, he⟩, hw⟩

theorem more_nil {c : Nat} : more c [] = c := by
  unfold more
  exact xor_self_cancel _ _

def LentP (w0 : World) (xs : List UInt8) (n : Nat) (e : Ending) (w' : World) : Prop :=
  ∃ g cap, e = .returned (.slice (some ⟨g, 0, none⟩) n cap) ∧ Rd w' w'.heap.size (some ⟨g, 0, none⟩) (bv xs) ∧ Below w0.heap.size w0 w'

theorem lentP (w0 : World) (xs : List UInt8) (n : Nat) (hn : n = xs.length) (A : Option Addr) (c : Nat) (hx : Rd w0 w0.heap.size A (bv xs)) (hl : xs.length + 2 ≤ 140737488355328) (w : World) (hb : Below w0.heap.size w0 w) :
    Calls Try.prog 17 #[.slice A n c] w (LentP w0 xs n) := by
  refine (lent_at xs n hn A c w0.heap.size w (hx.below hb) hl).mono ?_
  rintro e w' ⟨g, cap, rfl, hc, hb2⟩
  exact ⟨g, cap, by rw [hn], hc.rd, hb.trans (hb2.mono hb.size)⟩

set_option maxRecDepth 100000 in
set_option maxHeartbeats 2000000 in
theorem parts_some (p : List UInt8) (cut : Int) (c : Nat) (a : Addr) (k B : Nat) (w : World) (hx : Rd w B (some a) (bv p)) (hB : B ≤ w.heap.size) (hk : p.length ≤ k) (hc : c < 4294967296) (hl : p.length ≤ 140737488351232) :
    Calls Try.prog 6 #[.slice (some a) p.length k, .int .i64 cut, .int .u32 c] w fun e w' => e = .returned (.bool true) ∧ Below w.heap.size w w' := by
  go_enter Try.func6, Try.ntmps6
  go_wp2_with (first
    | (go_at_call 30; refine (awake_any w).mono ?_; rintro e w1 ⟨rfl, b1⟩)
    | (go_at_call 31; refine (round_at cut p.length w1 (by omega)).mono ?_; rintro e w9 ⟨⟨j, hj, rfl⟩, rfl⟩)
    | fail)
  obtain ⟨S, hS⟩ : ∃ S, S = (if k = j then some a else (some a).map (·.add j)) := ⟨_, rfl⟩
  have hx0 := hx.more hB
  have hr1 := hx0.take j
  have hr2 := hx0.cut j k (by rw [bv_length]; exact hk)
  rw [← hS] at hr2
  rw [show (bv p).take j = bv (p.take j) by simp [bv, List.map_take]] at hr1
  rw [show (bv p).drop j = bv (p.drop j) by simp [bv, List.map_drop]] at hr2
  have l1 : j = (p.take j).length := by rw [List.length_take]; omega
  have l2 : p.length - j = (p.drop j).length := by simp
  have hpp : p.take j ++ p.drop j = p := List.take_append_drop j p
  obtain ⟨P1, e1⟩ : ∃ P1, P1 = p.take j := ⟨_, rfl⟩
  obtain ⟨P2, e2⟩ : ∃ P2, P2 = p.drop j := ⟨_, rfl⟩
  rw [← e1] at l1 hr1 hpp
  rw [← e2] at l2 hr2 hpp
  obtain ⟨n, hn⟩ : ∃ n, n = p.length := ⟨_, rfl⟩
  have HL1 := Lib.hid (lentP w P1 j l1 (some a) k hr1 (by omega))
  have HL2 := Lib.hid (lentP w P2 (p.length - j) l2 S (k - j) hr2 (by omega))
  have HL3 := Lib.hid (lentP w p p.length rfl (some a) k hx0 (by omega))
  obtain ⟨m1, hm1⟩ : ∃ m1, m1 = more 0 P1 := ⟨_, rfl⟩
  obtain ⟨m0, hm0⟩ : ∃ m0, m0 = more 0 p := ⟨_, rfl⟩
  obtain ⟨m3, hm3⟩ : ∃ m3, m3 = more c P1 := ⟨_, rfl⟩
  obtain ⟨mc, hmc⟩ : ∃ mc, mc = more c p := ⟨_, rfl⟩
  have q1 : more m1 P2 = m0 := by rw [hm1, hm0, more_append, hpp]
  have q3 : more m3 P2 = mc := by rw [hm3, hmc, more_append, hpp]
  have b1m : m1 < 4294967296 := by rw [hm1]; exact more_lt _ (by omega)
  have b3m : m3 < 4294967296 := by rw [hm3]; exact more_lt _ hc
  have HC1 := Lib.hid (fun (w' : World) (A : Option Addr) (d : Nat) (h : Rd w' w'.heap.size A (bv P1)) => crc_at P1 j l1 A d _ w' h (by omega))
  have HC0 := Lib.hid (fun (w' : World) (A : Option Addr) (d : Nat) (h : Rd w' w'.heap.size A (bv p)) => crc_at p p.length rfl A d _ w' h (by omega))
  have HM1 := Lib.hid (fun (w' : World) (A : Option Addr) (d : Nat) (h : Rd w' w'.heap.size A (bv P2)) => more_at m1 P2 (p.length - j) l2 A d _ w' h b1m (by omega))
  have HM2 := Lib.hid (fun (w' : World) (A : Option Addr) (d : Nat) (h : Rd w' w'.heap.size A (bv P1)) => more_at c P1 j l1 A d _ w' h hc (by omega))
  have HM3 := Lib.hid (fun (w' : World) (A : Option Addr) (d : Nat) (h : Rd w' w'.heap.size A (bv P2)) => more_at m3 P2 (p.length - j) l2 A d _ w' h b3m (by omega))
  have HM4 := Lib.hid (fun (w' : World) (A : Option Addr) (d : Nat) (h : Rd w' w'.heap.size A (bv p)) => more_at c p p.length rfl A d _ w' h hc (by omega))
  have HM5 := Lib.hid (fun (w' : World) => more_at c [] 0 rfl none 0 _ w' (Rd.nil_ w' w'.heap.size none) hc (by simp))
  rw [← hm1] at HC1
  rw [← hm0] at HC0
  rw [q1] at HM1
  rw [← hm3] at HM2
  rw [q3] at HM3
  rw [← hmc] at HM4
  rw [more_nil] at HM5
  have hbd : Below w.heap.size w w1.drew := b1.drew
  have hS2 : (if k = j then some a else some (a.add j)) = S := hS.symm
  clear hS
  have hj0 : (0 : Int) ≤ (j : Int) := Int.natCast_nonneg _
  have hjn : (j : Int) ≤ (p.length : Int) := by omega
  have hjk : (j : Int) ≤ (k : Int) := by omega
  have hnk : (p.length : Int) ≤ (k : Int) := by omega
  have hjk' : j ≤ k := by omega
  clear hm1 hm0 hm3 hmc q1 q3 e1 e2 hpp l1 l2 hr1 hr2 hx hx0 hn
  have tok0 : True := trivial
  have tok1 : True := trivial
  have tok2 : True := trivial
  have tok3 : True := trivial
  have tok4 : True := trivial
  have tok5 : True := trivial
  have tok6 : True := trivial
  have tok7 : True := trivial
  have tok8 : True := trivial
  have tok9 : True := trivial
  have tok10 : True := trivial
  have tok11 : True := trivial
  have tok12 : True := trivial
  go_region_held3 (fun _ => True) (trivial)
    ((first
      | (go_at_call 17; have _t := tok0; refine (HL1.out _ hbd).mono ?_; rintro e w2 ⟨g2, cap2, rfl, hr0, hb0⟩; clear tok0 _t)
      | (go_at_call 23; have _t := tok1; refine (HC1.out _ _ _ hr0).mono ?_; rintro e w9 ⟨rfl, rfl⟩; clear tok1 _t)
      | (go_at_call 17; have _t := tok2; refine (HL2.out _ hb0).mono ?_; rintro e w2 ⟨g2, cap2, rfl, hr2, hb2⟩; clear tok2 _t)
      | (go_at_call 25; have _t := tok3; refine (HM1.out _ _ _ hr2).mono ?_; rintro e w9 ⟨rfl, rfl⟩; clear tok3 _t)
      | (go_at_call 17; have _t := tok4; refine (HL3.out _ hb2).mono ?_; rintro e w2 ⟨g2, cap2, rfl, hr4, hb4⟩; clear tok4 _t)
      | (go_at_call 23; have _t := tok5; refine (HC0.out _ _ _ hr4).mono ?_; rintro e w9 ⟨rfl, rfl⟩; clear tok5 _t)
      | (go_at_call 17; have _t := tok6; refine (HL1.out _ hb4).mono ?_; rintro e w2 ⟨g2, cap2, rfl, hr6, hb6⟩; clear tok6 _t)
      | (go_at_call 25; have _t := tok7; refine (HM2.out _ _ _ hr6).mono ?_; rintro e w9 ⟨rfl, rfl⟩; clear tok7 _t)
      | (go_at_call 17; have _t := tok8; refine (HL2.out _ hb6).mono ?_; rintro e w2 ⟨g2, cap2, rfl, hr8, hb8⟩; clear tok8 _t)
      | (go_at_call 25; have _t := tok9; refine (HM3.out _ _ _ hr8).mono ?_; rintro e w9 ⟨rfl, rfl⟩; clear tok9 _t)
      | (go_at_call 17; have _t := tok10; refine (HL3.out _ hb8).mono ?_; rintro e w2 ⟨g2, cap2, rfl, hr10, hb10⟩; clear tok10 _t)
      | (go_at_call 25; have _t := tok11; refine (HM4.out _ _ _ hr10).mono ?_; rintro e w9 ⟨rfl, rfl⟩; clear tok11 _t)
      | (go_at_call 25; have _t := tok12; refine (HM5.out _).mono ?_; rintro e w9 ⟨rfl, rfl⟩; clear tok12 _t)
      | fail))
  go_wp2
  go_ret
  exact ⟨rfl, hb10⟩

set_option maxRecDepth 100000 in
set_option maxHeartbeats 2000000 in
theorem parts_none (cut : Int) (c : Nat) (w : World) (hc : c < 4294967296) :
    Calls Try.prog 6 #[.slice none 0 0, .int .i64 cut, .int .u32 c] w fun e w' => e = .returned (.bool true) ∧ Below w.heap.size w w' := by
  have HR := Lib.hid (fun (w' : World) => round_at cut 0 w' (by omega))
  go_enter Try.func6, Try.ntmps6
  go_wp2_with (first
    | (go_at_call 30; refine (awake_any w).mono ?_; rintro e w1 ⟨rfl, b1⟩)
    | (go_at_call 31; refine (HR.out w1).mono ?_; rintro e w9 ⟨⟨j, hj, rfl⟩, rfl⟩)
    | fail)
  obtain rfl : j = 0 := by omega
  have HL := Lib.hid (lentP w [] 0 rfl none 0 (Rd.nil_ _ _ _) (by simp))
  have HC := Lib.hid (fun (w' : World) (A : Option Addr) (d : Nat) (h : Rd w' w'.heap.size A (bv [])) => crc_at [] 0 rfl A d _ w' h (by simp))
  have HM0 := Lib.hid (fun (w' : World) (A : Option Addr) (d : Nat) (h : Rd w' w'.heap.size A (bv [])) => more_at 0 [] 0 rfl A d _ w' h (by omega) (by simp))
  have HM := Lib.hid (fun (w' : World) (A : Option Addr) (d : Nat) (h : Rd w' w'.heap.size A (bv [])) => more_at c [] 0 rfl A d _ w' h hc (by simp))
  have HM5 := Lib.hid (fun (w' : World) => more_at c [] 0 rfl none 0 _ w' (Rd.nil_ w' w'.heap.size none) hc (by simp))
  rw [more_nil] at HC HM0 HM HM5
  have hbd : Below w.heap.size w w1.drew := b1.drew
  have tok0 : True := trivial
  have tok1 : True := trivial
  have tok2 : True := trivial
  have tok3 : True := trivial
  have tok4 : True := trivial
  have tok5 : True := trivial
  have tok6 : True := trivial
  have tok7 : True := trivial
  have tok8 : True := trivial
  have tok9 : True := trivial
  have tok10 : True := trivial
  have tok11 : True := trivial
  have tok12 : True := trivial
  go_region_held3 (fun _ => True) (trivial)
    ((first
      | (go_at_call 17; have _t := tok0; refine (HL.out _ hbd).mono ?_; rintro e w2 ⟨g2, cap2, rfl, hr0, hb0⟩; clear tok0 _t)
      | (go_at_call 23; have _t := tok1; refine (HC.out _ _ _ hr0).mono ?_; rintro e w9 ⟨rfl, rfl⟩; clear tok1 _t)
      | (go_at_call 17; have _t := tok2; refine (HL.out _ hb0).mono ?_; rintro e w2 ⟨g2, cap2, rfl, hr2, hb2⟩; clear tok2 _t)
      | (go_at_call 25; have _t := tok3; refine (HM0.out _ _ _ hr2).mono ?_; rintro e w9 ⟨rfl, rfl⟩; clear tok3 _t)
      | (go_at_call 17; have _t := tok4; refine (HL.out _ hb2).mono ?_; rintro e w2 ⟨g2, cap2, rfl, hr4, hb4⟩; clear tok4 _t)
      | (go_at_call 23; have _t := tok5; refine (HC.out _ _ _ hr4).mono ?_; rintro e w9 ⟨rfl, rfl⟩; clear tok5 _t)
      | (go_at_call 17; have _t := tok6; refine (HL.out _ hb4).mono ?_; rintro e w2 ⟨g2, cap2, rfl, hr6, hb6⟩; clear tok6 _t)
      | (go_at_call 25; have _t := tok7; refine (HM.out _ _ _ hr6).mono ?_; rintro e w9 ⟨rfl, rfl⟩; clear tok7 _t)
      | (go_at_call 17; have _t := tok8; refine (HL.out _ hb6).mono ?_; rintro e w2 ⟨g2, cap2, rfl, hr8, hb8⟩; clear tok8 _t)
      | (go_at_call 25; have _t := tok9; refine (HM.out _ _ _ hr8).mono ?_; rintro e w9 ⟨rfl, rfl⟩; clear tok9 _t)
      | (go_at_call 17; have _t := tok10; refine (HL.out _ hb8).mono ?_; rintro e w2 ⟨g2, cap2, rfl, hr10, hb10⟩; clear tok10 _t)
      | (go_at_call 25; have _t := tok11; refine (HM.out _ _ _ hr10).mono ?_; rintro e w9 ⟨rfl, rfl⟩; clear tok11 _t)
      | (go_at_call 25; have _t := tok12; refine (HM5.out _).mono ?_; rintro e w9 ⟨rfl, rfl⟩; clear tok12 _t)
      | fail))
  go_wp2
  go_ret
  exact ⟨rfl, hb10⟩

theorem parts_any (p : List UInt8) (cut : Int) (c : Nat) (A : Option Addr) (k B : Nat) (w : World) (hx : Rd w B A (bv p)) (hB : B ≤ w.heap.size) (hA : A = none → k = 0) (hk : p.length ≤ k) (hc : c < 4294967296) (hl : p.length ≤ 140737488351232) :
    Calls Try.prog 6 #[.slice A p.length k, .int .i64 cut, .int .u32 c] w fun e w' => e = .returned (.bool true) ∧ Below w.heap.size w w' := by
  cases A with
  | none =>
    obtain rfl := hA rfl
    obtain rfl : p = [] := List.eq_nil_of_length_eq_zero (by omega)
    exact parts_none cut c w hc
  | some a => exact parts_some p cut c a k B w hx hB hk hc hl

end Go.Proofs.Ytbhjcfhpabnadaa
