/- PROVED: TopSharesCardSaid: for every row of weights the law TopShares returns true, and the row reads as before; the variables that the row lists are tied to the program's text. No condition beyond the statement's own. -/
import Derived.Test.YtlhpdegoglgdpaaGreatDoorKrA
import Derived.Test.YtlhpdegoglgdpaaGreatDoorKmA
import Derived.Test.YtlhpdegoglgdpaaGreatDoorKmB
import Derived.Test.YtlhpdegoglgdpaaGreatDoorKmC
import Derived.Test.YtlhpdegoglgdpaaGreatDoorCards
namespace Go.Proofs.Sh
open Go
open Go.Proofs.YtlhpdegoglgdpaaGreatDoor
set_option maxRecDepth 100000 in
theorem over : Rows.TopSharesSaid :=
  OpenClaim.holds_of_wide 3 Tryz.f3 rfl rfl rfl rfl rfl rfl rfl ⟨rfl, rfl, rfl, rfl, rfl⟩ rfl rfl rfl rfl rfl m3 Tryz.func3 joined m4 m5
    (fun os started H enc _ => lifted os started H enc)
set_option maxRecDepth 100000 in
theorem card : Claim7.holds Tryz.pinned (.plain (OpenSpec.ofChange Rows.topSharesSpec)) { stood := { row := Rows.topSharesRow, standIns := [], harness := (true, "36b61749410ed607a0699b46b81d1eb7aaa37f07350ff40dd55f3981ecf64a0f"), looks := true }, kinds := [], alts := [], laidByText := true, laidKinds := [.data, .data, .data, .sentinel, .sentinel, .pinned, .data], laidTests := true, laidLooks := .later } :=
  Claim7.holds_tied_plain_at .later [] [.data, .data, .data, .sentinel, .sentinel, .pinned, .data] true (true, "36b61749410ed607a0699b46b81d1eb7aaa37f07350ff40dd55f3981ecf64a0f") true
    over (fun _ h => by cases h) m1 (fun _ h => by cases h) row_tie rfl ⟨rfl, rfl⟩ m2 rfl
    (fun f fn hf hfn => by
      obtain rfl : f = 3 := Option.some.inj (m3.symm.trans hf) |>.symm
      obtain rfl : fn = Tryz.f3 := (Option.some.inj (Tryz.func3.symm.trans hfn)).symm
      exact ⟨m7, fun j t ht => by
        rw [Tryz.params3] at ht
        have hm : t ∈ [22] := by simpa using Array.mem_of_getElem? ht
        obtain rfl : t = 22 := by simpa using hm
        exact m6⟩)
    m8
end Go.Proofs.Sh
namespace Go.Proofs.YtlhpdegoglgdpaaGreatDoor
theorem proved : Rows.TopSharesCardSaid := Go.Proofs.Sh.card
end Go.Proofs.YtlhpdegoglgdpaaGreatDoor
