/- A part of the proof of TopShares: for every row of weights the law returns true, and the row reads as before. No condition beyond the statement's own. -/
import Derived.Test.YtlhpdegoglgdpaaGreatDoorKwD
namespace Go.Proofs.Sh
open Go
open Go.Proofs.YtlhpdegoglgdpaaGreatDoor
theorem wit1 (os : Os) : World.variablesZipB Tryz.prog ((witW os).forCall (fun _ _ => 0) ⟨#[], witA, []⟩) = true := by
  unfold World.variablesZipB begin
  rw [wt]
  kernel_rfl
end Go.Proofs.Sh
namespace Go.Proofs.Sh
open Go
open Go.Proofs.YtlhpdegoglgdpaaGreatDoor
theorem wit2 (os : Os) : (((witW os).forCall (fun _ _ => 0) ⟨#[], witA, []⟩).heap.toList.drop Tryz.prog.globals.size).take ((begin Tryz.prog (fun _ _ => 0) default).world.heap.size - Tryz.prog.globals.size) =
    (begin Tryz.prog (fun _ _ => 0) default).world.heap.toList.drop Tryz.prog.globals.size := by
  unfold begin
  rw [wt]
  kernel_rfl
end Go.Proofs.Sh
namespace Go.Proofs.Sh
open Go
open Go.Proofs.YtlhpdegoglgdpaaGreatDoor
theorem wit3 (os : Os) : Input.okWideB Tryz.prog ((witW os).forCall (fun _ _ => 0) ⟨#[], witA, []⟩) 3 ⟨#[], witA, []⟩ = true := by kernel_rfl
theorem wit4 {H : Type} (enc : TypeId × Value → H) (os : Os) : Rows.topSharesSpec.preB enc Tryz.prog Tryz.f3 [] false ((witW os).forCall (fun _ _ => 0) ⟨#[], witA, []⟩).memory witA 8 = true := by kernel_rfl
theorem wit5 {H : Type} (enc : TypeId × Value → H) (os : Os) : Rows.topSharesSpec.sizedB enc Tryz.prog Tryz.f3 false ((witW os).forCall (fun _ _ => 0) ⟨#[], witA, []⟩).memory witA 8 = true := by kernel_rfl
end Go.Proofs.Sh
