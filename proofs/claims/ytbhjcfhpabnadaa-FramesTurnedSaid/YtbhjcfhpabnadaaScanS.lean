/-
  What a scan answers, as plain data. No program in sight.
-/
import Derived.Test.YtbhjcfhpabnadaaSR
namespace Go.Proofs.Ytbhjcfhpabnadaa
open Go.RowKit

def scanF : Nat → Nat → List UInt8 → List (Nat × List UInt8)
  | 0, _, _ => []
  | f + 1, k, b => match nextS b with
    | none => []
    | some p => (k + (8 + p.length), p) :: scanF f (k + (8 + p.length)) (b.drop (8 + p.length))

/-- The records of some bytes: of each the place behind it (counted from k) and the payload. -/
def scanR (k : Nat) (b : List UInt8) : List (Nat × List UInt8) := scanF b.length k b

theorem scanF_fuel (f : Nat) : ∀ (g k : Nat) (b : List UInt8), b.length ≤ f → b.length ≤ g → scanF f k b = scanF g k b := by
  have nil : ∀ (g k : Nat), scanF g k [] = [] := fun g k => by cases g <;> rfl
  induction f with
  | zero =>
    intro g k b h _
    obtain rfl : b = [] := List.eq_nil_of_length_eq_zero (by omega)
    rw [nil, nil]
  | succ f ih =>
    intro g k b h h2
    cases g with
    | zero =>
      obtain rfl : b = [] := List.eq_nil_of_length_eq_zero (by omega)
      rw [nil, nil]
    | succ g =>
      simp only [scanF]
      cases hn : nextS b with
      | none => rfl
      | some p =>
        have hl := nextS_len hn
        have hd : (b.drop (8 + p.length)).length = b.length - (8 + p.length) := by simp
        simp only
        rw [ih g _ _ (by omega) (by omega)]

theorem scanR_none {k : Nat} {b : List UInt8} (h : nextS b = none) : scanR k b = [] := by
  unfold scanR
  cases b.length with
  | zero => rfl
  | succ f => simp [scanF, h]

theorem scanR_some {k : Nat} {b p : List UInt8} (h : nextS b = some p) : scanR k b = (k + (8 + p.length), p) :: scanR (k + (8 + p.length)) (b.drop (8 + p.length)) := by
  have hl := nextS_len h
  have hd : (b.drop (8 + p.length)).length = b.length - (8 + p.length) := by simp
  unfold scanR
  obtain ⟨m, hm⟩ : ∃ m, b.length = m + 1 := ⟨b.length - 1, by omega⟩
  rw [hm]
  simp only [scanF, h]
  rw [scanF_fuel m _ _ _ (by omega) (Nat.le_refl _)]

/-- The place behind the last of some records. -/
def lastK (l : List (Nat × List UInt8)) : Nat := ((l.getLast?).map (·.1)).getD 0
theorem lastK_nil : lastK [] = 0 := rfl
theorem lastK_snoc (l : List (Nat × List UInt8)) (x : Nat × List UInt8) : lastK (l ++ [x]) = x.1 := by simp [lastK]

end Go.Proofs.Ytbhjcfhpabnadaa
