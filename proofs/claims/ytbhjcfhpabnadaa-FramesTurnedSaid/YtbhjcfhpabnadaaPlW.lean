/-
  The walks of turnpikelaw19's round and plain. (Printed by wip/mkpl.py.)
-/
import Derived.Test.YtbhjcfhpabnadaaAwF
namespace Go.Proofs.Ytbhjcfhpabnadaa
open Go.RowKit

attribute [local go_sem] drewN_setCell drewN_alloc World.drewN_drewN

set_option maxHeartbeats 400000 in
theorem round47_any (a : Int) (n : Nat) (w : World) (hn : 0 < n) (hn2 : n ≤ 9223372036854775807) :
    Calls Try.prog 47 #[.int .i64 a, .int .i64 n] w fun e w' => (∃ k : Nat, k < n ∧ e = .returned (.int .i64 k)) ∧ w = w' := by
  have b1 : -(n : Int) < a.tmod n := by
    have := Int.lt_tmod_of_pos a (b := (n : Int)) (by omega)
    omega
  have b2 : a.tmod n < (n : Int) := Int.tmod_lt_of_pos a (by omega)
  obtain ⟨r, hr⟩ : ∃ r, r = a.tmod n := ⟨_, rfl⟩
  rw [← hr] at b1 b2
  have hn0 : (n : Int) ≠ 0 := by omega
  have hr2 := hr.symm
  have hwr : IntKind.i64.wrap r = r := IntWalk.i64_in _ (by omega)
  clear hr
  by_cases hneg : r < 0
  · go_enter Try.func47, Try.ntmps47
    go_wp2
    go_ret
    exact ⟨⟨(r + n).toNat, by omega, ret_int (by omega)⟩, rfl⟩
  · go_enter Try.func47, Try.ntmps47
    go_wp2
    go_ret
    exact ⟨⟨r.toNat, by omega, ret_int (by omega)⟩, rfl⟩


set_option maxRecDepth 100000 in
set_option maxHeartbeats 2000000 in
theorem pl_1 (nm tx : ByteArray) (ve fr no er : Int) (w : World) : Calls Try.prog 48 #[.agg #[.int .i64 1, .string nm, .int .i64 ve, .int .i64 fr, .int .i64 no, .int .i64 er, .string tx]] w fun e w' => e = .returned (.agg #[.int .i64 1, .string nm, .int .i64 ve, .int .i64 0, .int .i64 0, .int .i64 0, .string ⟨#[]⟩]) ∧ Below w.heap.size w w' := by
  go_enter Try.func48, Try.ntmps48
  go_wp2
  refine bodyPost_ret (v := .agg #[.int .i64 1, .string nm, .int .i64 ve, .int .i64 0, .int .i64 0, .int .i64 0, .string ⟨#[]⟩]) (by simp [results, Try.results48, go_sem]) rfl ⟨rfl, ?_⟩
  exact ((Below.refl _ _).alloc (Nat.le_refl _) _).alloc (by simp) _

set_option maxRecDepth 100000 in
set_option maxHeartbeats 2000000 in
theorem pl_2 (nm tx : ByteArray) (ve fr no er : Int) (w : World) : Calls Try.prog 48 #[.agg #[.int .i64 2, .string nm, .int .i64 ve, .int .i64 fr, .int .i64 no, .int .i64 er, .string tx]] w fun e w' => e = .returned (.agg #[.int .i64 2, .string ⟨#[]⟩, .int .i64 ve, .int .i64 fr, .int .i64 no, .int .i64 0, .string tx]) ∧ Below w.heap.size w w' := by
  go_enter Try.func48, Try.ntmps48
  go_wp2
  refine bodyPost_ret (v := .agg #[.int .i64 2, .string ⟨#[]⟩, .int .i64 ve, .int .i64 fr, .int .i64 no, .int .i64 0, .string tx]) (by simp [results, Try.results48, go_sem]) rfl ⟨rfl, ?_⟩
  exact ((Below.refl _ _).alloc (Nat.le_refl _) _).alloc (by simp) _

set_option maxRecDepth 100000 in
set_option maxHeartbeats 2000000 in
theorem pl_3 (nm tx : ByteArray) (ve fr no er : Int) (w : World) : Calls Try.prog 48 #[.agg #[.int .i64 3, .string nm, .int .i64 ve, .int .i64 fr, .int .i64 no, .int .i64 er, .string tx]] w fun e w' => e = .returned (.agg #[.int .i64 3, .string ⟨#[]⟩, .int .i64 ve, .int .i64 0, .int .i64 no, .int .i64 0, .string ⟨#[]⟩]) ∧ Below w.heap.size w w' := by
  go_enter Try.func48, Try.ntmps48
  go_wp2
  refine bodyPost_ret (v := .agg #[.int .i64 3, .string ⟨#[]⟩, .int .i64 ve, .int .i64 0, .int .i64 no, .int .i64 0, .string ⟨#[]⟩]) (by simp [results, Try.results48, go_sem]) rfl ⟨rfl, ?_⟩
  exact ((Below.refl _ _).alloc (Nat.le_refl _) _).alloc (by simp) _

set_option maxRecDepth 100000 in
set_option maxHeartbeats 2000000 in
theorem pl_4 (nm tx : ByteArray) (ve fr no er : Int) (w : World) : Calls Try.prog 48 #[.agg #[.int .i64 4, .string nm, .int .i64 ve, .int .i64 fr, .int .i64 no, .int .i64 er, .string tx]] w fun e w' => e = .returned (.agg #[.int .i64 4, .string ⟨#[]⟩, .int .i64 ve, .int .i64 0, .int .i64 no, .int .i64 er, .string ⟨#[]⟩]) ∧ Below w.heap.size w w' := by
  go_enter Try.func48, Try.ntmps48
  go_wp2
  refine bodyPost_ret (v := .agg #[.int .i64 4, .string ⟨#[]⟩, .int .i64 ve, .int .i64 0, .int .i64 no, .int .i64 er, .string ⟨#[]⟩]) (by simp [results, Try.results48, go_sem]) rfl ⟨rfl, ?_⟩
  exact ((Below.refl _ _).alloc (Nat.le_refl _) _).alloc (by simp) _

set_option maxRecDepth 100000 in
set_option maxHeartbeats 2000000 in
theorem pl_o (kd : Int) (kk : (kd == 1) = false ∧ (kd == 2) = false ∧ (kd == 3) = false ∧ (kd == 4) = false) (nm tx : ByteArray) (ve fr no er : Int) (w : World) : Calls Try.prog 48 #[.agg #[.int .i64 kd, .string nm, .int .i64 ve, .int .i64 fr, .int .i64 no, .int .i64 er, .string tx]] w fun e w' => e = .returned (.agg #[.int .i64 kd, .string ⟨#[]⟩, .int .i64 0, .int .i64 0, .int .i64 no, .int .i64 0, .string ⟨#[]⟩]) ∧ Below w.heap.size w w' := by
  obtain ⟨k1, k2, k3, k4⟩ := kk
  go_enter Try.func48, Try.ntmps48
  go_wp2
  refine bodyPost_ret (v := .agg #[.int .i64 kd, .string ⟨#[]⟩, .int .i64 0, .int .i64 0, .int .i64 no, .int .i64 0, .string ⟨#[]⟩]) (by simp [results, Try.results48, go_sem]) rfl ⟨rfl, ?_⟩
  exact ((Below.refl _ _).alloc (Nat.le_refl _) _).alloc (by simp) _

theorem plain48_any (m : Msg) (w : World) : Calls Try.prog 48 #[msgV m] w fun e w' => e = .returned (msgV (plainM m)) ∧ Below w.heap.size w w' := by
  obtain ⟨kd, nm, ve, fr, no, er, tx⟩ := m
  have bf : ∀ k : Int, kd ≠ k → (kd == k) = false := fun k h => by rw [beq_eq_false_iff_ne]; exact h
  by_cases h1 : kd = 1
  · subst h1; exact pl_1 nm tx ve fr no er w
  by_cases h2 : kd = 2
  · subst h2; exact pl_2 nm tx ve fr no er w
  by_cases h3 : kd = 3
  · subst h3; exact pl_3 nm tx ve fr no er w
  by_cases h4 : kd = 4
  · subst h4; exact pl_4 nm tx ve fr no er w
  have h := pl_o kd ⟨bf 1 h1, bf 2 h2, bf 3 h3, bf 4 h4⟩ nm tx ve fr no er w
  have e : plainM ⟨kd, nm, ve, fr, no, er, tx⟩ = ⟨kd, ⟨#[]⟩, 0, 0, no, 0, ⟨#[]⟩⟩ := by simp [plainM, h1, h2, h3, h4]
  rw [e]
  exact h

end Go.Proofs.Ytbhjcfhpabnadaa
