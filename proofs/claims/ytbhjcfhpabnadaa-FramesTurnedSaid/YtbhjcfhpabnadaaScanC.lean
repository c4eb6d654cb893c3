/-
  The contracts of the two scans and of lent, as lists.
-/
import Derived.Test.YtbhjcfhpabnadaaRScan
namespace Go.Proofs.Ytbhjcfhpabnadaa
open Go.RowKit

def pays (b : List UInt8) : List (List UInt8) := (scanR 0 b).map (·.2)
def spots (b : List UInt8) : List Value := (scanR 0 b).map fun x => .int .i64 (x.1 : Int)

/-- What the reference's Scan leaves, as lists. -/
def RS (w : World) (b : List UInt8) (N : Nat) (e : Ending) (w' : World) : Prop :=
  ∃ O c P cp, e = .returned (.tuple #[.slice O N c, .slice P N cp]) ∧ LL w' w'.heap.size O (pays b) ∧ Rd w' w'.heap.size P (spots b) ∧ Below w.heap.size w w'
/-- What sum.Scan leaves, as lists. -/
def SS (w : World) (b : List UInt8) (N L : Nat) (e : Ending) (w' : World) : Prop :=
  ∃ O c, e = .returned (.tuple #[.slice O N c, .int .i64 L]) ∧ LL w' w'.heap.size O (pays b) ∧ Below w.heap.size w w'

theorem all_len {b : List UInt8} {els : List El} (h : AllS b els) : els.length = (scanR 0 b).length := by
  rw [← h]
  simp
theorem all_pays {b : List UInt8} {els : List El} (h : AllS b els) : els.map El.p = pays b := by
  unfold pays
  rw [← h, List.map_map]
  rfl
theorem all_spots {b : List UInt8} {els : List El} (h : AllS b els) : els.map El.kv = spots b := by
  unfold spots
  rw [← h, List.map_map]
  rfl

theorem rscan_at (b : List UInt8) (N : Nat) (hN : N = (scanR 0 b).length) (n : Nat) (hn : n = b.length) (A : Option Addr) (c : Nat) (hA : A = none → c = 0) (hc : n ≤ c) (hl : b.length ≤ 1048576) (w : World) (hr : Rd w w.heap.size A (bv b)) :
    Calls Try.prog 26 #[.slice A n c] w (RS w b N) := by
  refine (rscan_any b n hn A c hA hc hl w hr).mono ?_
  rintro e w' ⟨O, c, P, cp, els, rfl, hO, hP, hall, hels, hb⟩
  have hl2 := all_len hall
  refine ⟨O, c, P, cp, by rw [hN, ← hl2], ?_, ?_, hb⟩
  · rw [← all_pays hall]
    exact LL.of_els hO hels
  · rw [← all_spots hall]
    exact hP.rd
theorem scan_at (b : List UInt8) (N L : Nat) (hN : N = (scanR 0 b).length) (hL : L = lastK (scanR 0 b)) (n : Nat) (hn : n = b.length) (A : Option Addr) (c : Nat) (hA : A = none → c = 0) (hc : n ≤ c) (hl : b.length ≤ 16777216) (w : World) (hr : Rd w w.heap.size A (bv b)) :
    Calls Try.prog 27 #[.slice A n c] w (SS w b N L) := by
  refine (scan_any b n hn A c hA hc hl w hr).mono ?_
  rintro e w' ⟨O, c, els, rfl, hO, hall, hels, hb⟩
  have hl2 := all_len hall
  refine ⟨O, c, by rw [hN, ← hl2, hL], ?_, hb⟩
  rw [← all_pays hall]
  exact LL.of_els hO hels

theorem lentN (xs : List UInt8) (n : Nat) (hn : n = xs.length) (A : Option Addr) (c B : Nat) (w : World) (hx : Rd w B A (bv xs)) (hl : n ≤ 16777216) :
    Calls Try.prog 17 #[.slice A n c] w fun e w' => ∃ g cap, e = .returned (.slice (some ⟨g, 0, none⟩) n cap) ∧ Copy w' w.heap.size g cap xs ∧ n ≤ cap ∧ Below w.heap.size w w' := by
  refine (lent_at xs n hn A c B w hx (by omega)).mono ?_
  rintro e w' ⟨g, cap, rfl, hc, hb⟩
  exact ⟨g, cap, by rw [hn], hc, by have := hc.1; omega, hb⟩

theorem Copy.bel {w w' : World} {base g cap : Nat} {xs : List UInt8} (h : Copy w base g cap xs) (hb : Below w.heap.size w w') : Copy w' base g cap xs := ⟨h.1, h.2.below hb (Nat.le_refl _)⟩

end Go.Proofs.Ytbhjcfhpabnadaa
