/-
  The walks of NewReader, Waits, Dead; of a nil reader's Feed.
-/
import Derived.Test.YtbhjcfhpabnadaaTur
import Derived.Test.YtbhjcfhpabnadaaFR
namespace Go.Proofs.Ytbhjcfhpabnadaa
open Go.RowKit

set_option maxHeartbeats 400000 in
theorem newReader_any (w : World) : Calls Try.prog 40 #[] w fun e w' => e = .returned (.pointer (some ⟨w.heap.size, 0, none⟩)) ∧ w' = w.alloc (.cells #[.slice none 0 0, .bool false] 115) := by
  go_enter Try.func40, Try.ntmps40
  go_wp2
  go_ret
  exact ⟨rfl, rfl⟩
theorem newReader_at (w : World) : Calls Try.prog 40 #[] w fun e w' => e = .returned (.pointer (some ⟨w.heap.size, 0, none⟩)) ∧ Rdr w' 115 w.heap.size w.heap.size none ⟨[], false⟩ ∧ Below w.heap.size w w' ∧ w'.heap.size = w.heap.size + 1 := by
  refine (newReader_any w).mono ?_
  rintro e w' ⟨rfl, rfl⟩
  exact ⟨rfl, ⟨⟨0, new_at w _, Own.nil_ _ _ _ _⟩, fun _ => rfl⟩, (Below.refl _ _).alloc (Nat.le_refl _) _, by simp⟩

set_option maxHeartbeats 400000 in
theorem waits_nil (w : World) : Calls Try.prog 41 #[.pointer none] w fun e w' => e = .returned (.int .i64 0) ∧ w = w' := by
  go_enter Try.func41, Try.ntmps41
  go_wp2
  go_ret
  exact ⟨rfl, rfl⟩
set_option maxHeartbeats 400000 in
theorem waits_any {w : World} {base g : Nat} {A : Option Addr} {s : RSt} (h : Rdr w 115 base g A s) : Calls Try.prog 41 #[.pointer (some ⟨g, 0, none⟩)] w fun e w' => e = .returned (.int .i64 s.waits.length) ∧ w = w' := by
  obtain ⟨⟨c, h1, _⟩, _⟩ := h
  have x0 := cellAt h1 (j := 0) rfl
  clear h1
  go_enter Try.func41, Try.ntmps41
  go_wp2
  go_ret
  exact ⟨rfl, rfl⟩
set_option maxHeartbeats 400000 in
theorem dead_nil (w : World) : Calls Try.prog 42 #[.pointer none] w fun e w' => e = .returned (.bool false) ∧ w = w' := by
  go_enter Try.func42, Try.ntmps42
  go_wp2
  go_ret
  exact ⟨rfl, rfl⟩
set_option maxHeartbeats 400000 in
theorem dead_any {w : World} {base g : Nat} {A : Option Addr} {s : RSt} (h : Rdr w 115 base g A s) : Calls Try.prog 42 #[.pointer (some ⟨g, 0, none⟩)] w fun e w' => e = .returned (.bool s.dead) ∧ w = w' := by
  obtain ⟨⟨c, h1, _⟩, _⟩ := h
  have x0 := cellAt h1 (j := 1) rfl
  clear h1
  go_enter Try.func42, Try.ntmps42
  go_wp2
  go_ret
  exact ⟨rfl, rfl⟩
set_option maxHeartbeats 400000 in
theorem feed_nil (S : Option Addr) (n c : Nat) (w : World) : Calls Try.prog 43 #[.pointer none, .slice S n c] w fun e w' => e = .returned (.tuple #[.slice none 0 0, .int .i64 1]) ∧ w = w' := by
  go_enter Try.func43, Try.ntmps43
  go_wp2
  go_ret2
  exact ⟨rfl, rfl⟩

/-- What lent leaves, its length under a name. -/
def LentN (w : World) (xs : List UInt8) (n : Nat) (e : Ending) (w' : World) : Prop :=
  ∃ g cap, e = .returned (.slice (some ⟨g, 0, none⟩) n cap) ∧ Copy w' w.heap.size g cap xs ∧ n + 2 ≤ cap ∧ Below w.heap.size w w'
theorem lent36_n (xs : List UInt8) (n : Nat) (hn : n = xs.length) (A : Option Addr) (c B : Nat) (w : World) (hx : Rd w B A (bv xs)) (hl : n ≤ 140737488355326) :
    Calls Try.prog 36 #[.slice A n c] w (LentN w xs n) := by
  refine (lent36_at xs n hn A c B w hx (by omega)).mono ?_
  rintro e w' ⟨g, cap, he, hc, hb⟩
  exact ⟨g, cap, by rw [he, hn], hc, by have := hc.1; omega, hb⟩

end Go.Proofs.Ytbhjcfhpabnadaa
