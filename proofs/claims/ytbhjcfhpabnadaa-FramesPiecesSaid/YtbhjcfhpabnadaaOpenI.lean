/-
  A []int argument opened; how long a []byte argument can be.
-/
import Derived.Test.YtbhjcfhpabnadaaOpenB
namespace Go.Proofs.Ytbhjcfhpabnadaa
open Go.ChangeShapes Go.WideShapes Go.ChangeAt Go.RowKit Go.Deep

section
variable {H : Type} {enc : TypeId × Value → H} {w : World} {spare : Nat → Bool} {held : Bool}

theorem arg_len {A : Option Addr} {n c : Nat} {d : DataW H} {p : List MemPlace} (h : DataW.Trod enc Try.prog w 0 spare held 22 (.slice A n c) d p) : n ≤ 9223372036854775807 := by
  obtain ⟨fuel, hf⟩ := h
  rcases open_ints Try.underlying22 Try.underlying5 (by kernel_rfl) hf with ⟨hcs, _⟩ | ⟨a, len, cap, zs, hcs, _, hl, hm, _⟩
  · have : Value.slice A n c = .slice none 0 0 := by simpa [Value.cells] using hcs
    injection this with h1 h2 h3
    omega
  · have : Value.slice A n c = .slice (some a) len cap := by simpa [Value.cells] using hcs
    injection this with h1 h2 h3
    unfold maxLen at hm
    omega

theorem open_intsR {fuel : Nat} {cs : List Value} {x : DataW H × List MemPlace} (h : DataW.trod enc Try.prog w 0 spare held fuel 36 cs = some x) :
    ∃ A zs c, cs = [.slice A (List.length (α := Int) zs) c] ∧ Rd w w.heap.size A (zs.map (Value.int .i64)) ∧ zs.length ≤ 9223372036854775807 ∧ zs.length + 1 ≤ Rows.uptoBulk x.1 := by
  rcases open_ints Try.underlying36 Try.underlying3 (by kernel_rfl) h with ⟨rfl, rfl⟩ | ⟨a, len, cap, zs, rfl, _, hl, hm, hz, rfl, hcell, hwz⟩
  · exact ⟨none, [], 0, rfl, Rd.nil_ _ _ _, by simp, by simp [Rows.uptoBulk]⟩
  · have hle : len ≤ zs.length := by rw [hz]; split <;> omega
    have hxl : (zs.take len).length = len := by simp; omega
    refine ⟨some a, zs.take len, cap, by rw [hxl], ?_, by rw [hxl]; unfold maxLen at hm; omega, ?_⟩
    · intro j u hu
      have hj : j < len := by
        have := (List.getElem?_eq_some_iff.1 hu).1
        rw [List.length_map, hxl] at this
        exact this
      have hc := hcell j (by omega)
      rw [List.getElem?_map, List.getElem?_take, if_pos hj, List.getElem?_eq_getElem (by omega)] at hu
      injection hu with hu
      subst hu
      refine ⟨a, rfl, World.block_lt_of_cell? w _ hc |> (by simpa [add_block] using ·), ?_⟩
      rw [hc]
      simp [List.getD, show j < zs.length by omega]
    · have h1 := bulk_len (H := H) (lits .i64 (zs.take len))
      simp only [Rows.uptoBulk, hxl]
      simp only [lits, List.length_map, List.length_take] at h1
      simp only [lits]
      omega

/-- A []int argument. -/
theorem arg_ints {v : Value} {d : DataW H} {p : List MemPlace} (hv : ∃ a n c, v = .slice a n c) (h : DataW.Trod enc Try.prog w 0 spare held 36 v d p) :
    ∃ A zs c, v = .slice A (List.length (α := Int) zs) c ∧ Rd w w.heap.size A (zs.map (Value.int .i64)) ∧ zs.length ≤ 9223372036854775807 ∧ zs.length + 1 ≤ Rows.uptoBulk d := by
  obtain ⟨fuel, hf⟩ := h
  obtain ⟨A, xs, c, hcs, hr, hb⟩ := open_intsR hf
  obtain ⟨a, n, k, rfl⟩ := hv
  exact ⟨A, xs, c, by simpa [Value.cells] using hcs, hr, hb⟩
end

end Go.Proofs.Ytbhjcfhpabnadaa
