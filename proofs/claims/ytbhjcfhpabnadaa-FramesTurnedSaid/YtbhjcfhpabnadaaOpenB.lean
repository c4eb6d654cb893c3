/-
  What stands of the capacity of a []byte argument.
-/
import Derived.Test.YtbhjcfhpabnadaaOpen
namespace Go.Proofs.Ytbhjcfhpabnadaa
open Go.ChangeShapes Go.WideShapes Go.ChangeAt Go.RowKit Go.Deep

theorem arg_cap {H : Type} {enc : TypeId × Value → H} {w : World} {spare : Nat → Bool} {held : Bool} {A : Option Addr} {n c : Nat} {d : DataW H} {p : List MemPlace}
    (h : DataW.Trod enc Try.prog w 0 spare held 22 (.slice A n c) d p) : (A = none → c = 0) ∧ n ≤ c := by
  obtain ⟨fuel, hf⟩ := h
  rcases open_ints Try.underlying22 Try.underlying5 (by kernel_rfl) hf with ⟨hcs, _⟩ | ⟨a, len, cap, zs, hcs, _, hl, _⟩
  · have : Value.slice A n c = .slice none 0 0 := by simpa [Value.cells] using hcs
    injection this with h1 h2 h3
    subst h1 h2 h3
    exact ⟨fun _ => rfl, Nat.le_refl _⟩
  · have : Value.slice A n c = .slice (some a) len cap := by simpa [Value.cells] using hcs
    injection this with h1 h2 h3
    subst h1 h2 h3
    refine ⟨fun h => ?_, hl⟩
    cases h

end Go.Proofs.Ytbhjcfhpabnadaa
