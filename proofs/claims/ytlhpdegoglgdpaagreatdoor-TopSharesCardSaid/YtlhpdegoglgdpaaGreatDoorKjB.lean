/- A part of the proof of TopShares: for every row of weights the law returns true, and the row reads as before. No condition beyond the statement's own. -/
import Derived.Test.YtlhpdegoglgdpaaGreatDoorRows
import Derived.JoinedOf
namespace Go.Proofs.Sh
open Go
open Go.Proofs.YtlhpdegoglgdpaaGreatDoor
def allFrom (p : Nat → Bool) : Nat → Nat → Bool
  | _, 0 => true
  | a, k + 1 => p a && allFrom p (a + 1) k
theorem allFrom_at {p : Nat → Bool} : ∀ (k a : Nat), allFrom p a k = true → ∀ t, a ≤ t → t < a + k → p t = true
  | 0, _, _, t, h1, h2 => by omega
  | k + 1, a, h, t, h1, h2 => by
    unfold allFrom at h
    rw [Bool.and_eq_true] at h
    rcases Nat.lt_or_ge a t with hl | hl
    · exact allFrom_at k (a + 1) h.2 t (by omega) (by omega)
    · obtain rfl : t = a := by omega
      exact h.1
theorem tsz : Tryz.prog.types.size = 824 := by kernel_rfl
def mapFine (P : Program) (t : Nat) : Bool := match P.underlying t with | some (.map _ e) => decide (e < P.types.size) | _ => true
def keyFine (P : Program) (t : Nat) : Bool := match P.underlying t with
    | some (.map k _) => (match P.underlying k with | some (.array _ _) | some (.struct _) => false | _ => true)
    | _ => true
theorem rowFine_0 : allFrom (rowFine Tryz.prog) 0 50 = true := by kernel_rfl
theorem rowFine_50 : allFrom (rowFine Tryz.prog) 50 50 = true := by kernel_rfl
theorem rowFine_100 : allFrom (rowFine Tryz.prog) 100 50 = true := by kernel_rfl
theorem rowFine_150 : allFrom (rowFine Tryz.prog) 150 50 = true := by kernel_rfl
theorem rowFine_200 : allFrom (rowFine Tryz.prog) 200 50 = true := by kernel_rfl
theorem rowFine_250 : allFrom (rowFine Tryz.prog) 250 50 = true := by kernel_rfl
theorem rowFine_300 : allFrom (rowFine Tryz.prog) 300 50 = true := by kernel_rfl
theorem rowFine_350 : allFrom (rowFine Tryz.prog) 350 50 = true := by kernel_rfl
theorem rowFine_400 : allFrom (rowFine Tryz.prog) 400 50 = true := by kernel_rfl
theorem rowFine_450 : allFrom (rowFine Tryz.prog) 450 50 = true := by kernel_rfl
theorem rowFine_500 : allFrom (rowFine Tryz.prog) 500 50 = true := by kernel_rfl
theorem rowFine_550 : allFrom (rowFine Tryz.prog) 550 50 = true := by kernel_rfl
theorem rowFine_600 : allFrom (rowFine Tryz.prog) 600 50 = true := by kernel_rfl
theorem rowFine_650 : allFrom (rowFine Tryz.prog) 650 50 = true := by kernel_rfl
theorem rowFine_700 : allFrom (rowFine Tryz.prog) 700 50 = true := by kernel_rfl
theorem rowFine_750 : allFrom (rowFine Tryz.prog) 750 50 = true := by kernel_rfl
theorem rowFine_800 : allFrom (rowFine Tryz.prog) 800 24 = true := by kernel_rfl
theorem rowFine_all (t : Nat) (h : t < 824) : rowFine Tryz.prog t = true := by
  by_cases h0 : t < 50
  · exact allFrom_at 50 0 rowFine_0 t (by omega) (by omega)
  by_cases h50 : t < 100
  · exact allFrom_at 50 50 rowFine_50 t (by omega) (by omega)
  by_cases h100 : t < 150
  · exact allFrom_at 50 100 rowFine_100 t (by omega) (by omega)
  by_cases h150 : t < 200
  · exact allFrom_at 50 150 rowFine_150 t (by omega) (by omega)
  by_cases h200 : t < 250
  · exact allFrom_at 50 200 rowFine_200 t (by omega) (by omega)
  by_cases h250 : t < 300
  · exact allFrom_at 50 250 rowFine_250 t (by omega) (by omega)
  by_cases h300 : t < 350
  · exact allFrom_at 50 300 rowFine_300 t (by omega) (by omega)
  by_cases h350 : t < 400
  · exact allFrom_at 50 350 rowFine_350 t (by omega) (by omega)
  by_cases h400 : t < 450
  · exact allFrom_at 50 400 rowFine_400 t (by omega) (by omega)
  by_cases h450 : t < 500
  · exact allFrom_at 50 450 rowFine_450 t (by omega) (by omega)
  by_cases h500 : t < 550
  · exact allFrom_at 50 500 rowFine_500 t (by omega) (by omega)
  by_cases h550 : t < 600
  · exact allFrom_at 50 550 rowFine_550 t (by omega) (by omega)
  by_cases h600 : t < 650
  · exact allFrom_at 50 600 rowFine_600 t (by omega) (by omega)
  by_cases h650 : t < 700
  · exact allFrom_at 50 650 rowFine_650 t (by omega) (by omega)
  by_cases h700 : t < 750
  · exact allFrom_at 50 700 rowFine_700 t (by omega) (by omega)
  by_cases h750 : t < 800
  · exact allFrom_at 50 750 rowFine_750 t (by omega) (by omega)
  exact allFrom_at 24 800 rowFine_800 t (by omega) (by omega)
theorem glob_fine : Tryz.prog.globals.all (fun g => decide (g.type < Tryz.prog.types.size)) = true := by kernel_rfl
end Go.Proofs.Sh
