/- A part of the proof of TopShares: for every row of weights the law returns true, and the row reads as before. No condition beyond the statement's own. -/
import Derived.Test.YtlhpdegoglgdpaaGreatDoorRows
import Derived.Lay
import Derived.ProofKit
import Derived.LaidMore
namespace Go.Proofs.Sh
open Go
open Go.Proofs.YtlhpdegoglgdpaaGreatDoor
noncomputable def witH : Array Obj := #[.cells #[.int .i64 0] 3, .cells #[.bool false] 4,
  .cells (([1, 10, 100, 1000, 10000, 100000, 1000000, 10000000, 100000000, 1000000000, 10000000000, 100000000000, 1000000000000, 10000000000000, 100000000000000, 1000000000000000, 10000000000000000, 100000000000000000, 1000000000000000000, 10000000000000000000] : List Nat).map fun (n : Nat) => Value.int .u64 (Int.ofNat n)).toArray 753,
  .cells ((Go.Pinned.utf8FirstZ.map fun (n : Nat) => Value.int .u8 (Int.ofNat n)).toArray) 767,
  .cells (([128, 191, 160, 191, 128, 159, 144, 191, 128, 143, 0, 0, 0, 0, 0, 0, 0, 0, 0, 0, 0, 0, 0, 0, 0, 0, 0, 0, 0, 0, 0, 0] : List Nat).map fun (n : Nat) => Value.int .u8 (Int.ofNat n)).toArray 770,
  .cells #[.iface 777 (.pointer (some ⟨14, 0, none⟩))] 625, .cells #[.iface 777 (.pointer (some ⟨15, 0, none⟩))] 625,
  .cells (([0, 1, 28, 2, 29, 14, 24, 3, 30, 22, 20, 15, 25, 17, 4, 8, 31, 27, 13, 23, 21, 19, 16, 7, 26, 12, 18, 6, 11, 5, 10, 9] : List Nat).map fun (n : Nat) => Value.int .u8 (Int.ofNat n)).toArray 775,
  .cells (([0, 1, 56, 2, 57, 49, 28, 3, 61, 58, 42, 50, 38, 29, 17, 4, 62, 47, 59, 36, 45, 43, 51, 22, 53, 39, 33, 30, 24, 18, 12, 5, 63, 55, 48, 27, 60, 41, 37, 16, 46, 35, 44, 21, 52, 32, 23, 11, 54, 26, 40, 15, 34, 20, 31, 10, 25, 14, 19, 9, 13, 8, 7, 6] : List Nat).map fun (n : Nat) => Value.int .u8 (Int.ofNat n)).toArray 776,
  .cells ((Array.range Tryz.prog.types.size).map fun t => .int .u64 (Int.ofNat t)) 0, .map #[] 0, .finalizers #[] none, .cells #[.bool false] 0, .finalizers #[] none,
  .cells #[.string ⟨#[105, 110, 118, 97, 108, 105, 100, 32, 115, 121, 110, 116, 97, 120]⟩] 779, .cells #[.string ⟨#[118, 97, 108, 117, 101, 32, 111, 117, 116, 32, 111, 102, 32, 114, 97, 110, 103, 101]⟩] 779]
noncomputable def witW (os : Os) : World := { heap := witH, tape := fun _ _ => 0, drawn := 0, os, output := #[] }
def witA : Array Value := #[.slice none 0 0]
theorem wt : waiting Tryz.prog = #[false, false, false, false, false, false, false, false, false] := by kernel_rfl
end Go.Proofs.Sh
