/-
  Arguments opened: a []byte with its capacity; a list of steps, its data's bounds.
-/
import Derived.Test.YtpafimjdlbnckaaOpen
namespace Go.Proofs.Ytpafimjdlbnckaa
open Go.ChangeShapes Go.WideShapes Go.ChangeAt Go.RowKit Go.Deep

theorem own_ : ownKnob Try.prog.godebug = none := by kernel_rfl
theorem laidOut_ : laidOutB Try.prog = true := by kernel_rfl

theorem arg_cap {H : Type} {enc : TypeId × Value → H} {w : World} {spare : Nat → Bool} {held : Bool} {A : Option Addr} {n c : Nat} {d : DataW H} {p : List MemPlace}
    (h : DataW.Trod enc Try.prog w 0 spare held 24 (.slice A n c) d p) : (A = none → c = 0) ∧ n ≤ c := by
  obtain ⟨fuel, hf⟩ := h
  rcases open_ints Try.underlying24 Try.underlying5 (by kernel_rfl) hf with ⟨hcs, _⟩ | ⟨a, len, cap, zs, hcs, _, hl, _⟩
  · have : Value.slice A n c = .slice none 0 0 := by simpa [Value.cells] using hcs
    injection this with h1 h2 h3
    subst h1 h2 h3
    exact ⟨fun _ => rfl, Nat.le_refl _⟩
  · have : Value.slice A n c = .slice (some a) len cap := by simpa [Value.cells] using hcs
    injection this with h1 h2 h3
    subst h1 h2 h3
    refine ⟨fun h => ?_, hl⟩
    cases h

section
variable {H : Type} {enc : TypeId × Value → H} {w : World} {spare : Nat → Bool} {held : Bool}
theorem arg_bytes {v : Value} {d : DataW H} {p : List MemPlace} (hv : ∃ a n c, v = .slice a n c) (h : DataW.Trod enc Try.prog w 0 spare held 24 v d p) :
    ∃ A xs c, v = .slice A (List.length (α := UInt8) xs) c ∧ Rd w w.heap.size A (bv xs) ∧ xs.length + 1 ≤ Rows.uptoBulk d := by
  obtain ⟨fuel, hf⟩ := h
  obtain ⟨A, xs, c, hcs, hr, hb⟩ := open_bytes hf
  obtain ⟨a, n, k, rfl⟩ := hv
  exact ⟨A, xs, c, by simpa [Value.cells] using hcs, hr, hb⟩

/-- The list, where it lies; (its length, its data's, its bytes') bounds. -/
theorem arg_steps {v : Value} {d : DataW H} {p : List MemPlace} (hv : ∃ a n c, v = .slice a n c) (h : DataW.Trod enc Try.prog w 0 spare held 22 v d p) :
    ∃ A l c, v = .slice A (List.length (α := St) l) c ∧ StAt w w.heap.size 4 A l ∧ l.length ≤ Rows.uptoBulk d ∧ (∀ s ∈ l, s.data.length ≤ Rows.uptoBulk d) ∧ (encL l).length ≤ Rows.uptoBulk d := by
  obtain ⟨fuel, hf⟩ := h
  obtain ⟨A, l, c, hcs, hst, hl, hd, hn⟩ := open_steps hf
  obtain ⟨a, n, k, rfl⟩ := hv
  exact ⟨A, l, c, by simpa [Value.cells] using hcs, hst, hl, hd, hn⟩
end

end Go.Proofs.Ytpafimjdlbnckaa
