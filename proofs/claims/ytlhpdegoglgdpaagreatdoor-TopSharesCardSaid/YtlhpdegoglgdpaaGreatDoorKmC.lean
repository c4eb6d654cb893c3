/- A part of the proof of TopShares: for every row of weights the law returns true, and the row reads as before. No condition beyond the statement's own. -/
import Derived.Test.YtlhpdegoglgdpaaGreatDoorKmA
namespace Go.Proofs.Sh
open Go
open Go.Proofs.YtlhpdegoglgdpaaGreatDoor
theorem allg : Tryz.prog.funcs.any Func.goes = false := by kernel_rfl
theorem goes_of {P : Program} {f : FuncId} (h : P.funcs.any Func.goes = false) : P.goes f = false := by
  have key : ∀ g : Nat, (P.funcs[g]?).any Func.goes = false := by
    intro g
    cases hg : P.funcs[g]? with
    | none => rfl
    | some fn =>
      rw [Array.any_eq_false] at h
      obtain ⟨hlt, e⟩ := Array.getElem?_eq_some_iff.1 hg
      have := h g hlt
      rw [e] at this
      simpa using this
  unfold Program.goes
  rw [h, Bool.and_false, Bool.or_false, List.any_eq_false]
  intro g _
  rw [key g]
  exact Bool.false_ne_true
theorem goesBy_of {P : Program} {c : OpenClaim} {f : FuncId} (hs : c.start = .entering) (hf : P.funcNamed c.func = some f) (h : P.funcs.any Func.goes = false) : false = c.goesBy P := by
  unfold OpenClaim.goesBy Program.goesAt Program.goesFrom
  rw [hf, hs]
  simp [goes_of h]
theorem m8 : false = Rows.topSharesRow.goesBy Tryz.pinned.checked.prog := goesBy_of (P := Tryz.prog) rfl m3 allg
end Go.Proofs.Sh
