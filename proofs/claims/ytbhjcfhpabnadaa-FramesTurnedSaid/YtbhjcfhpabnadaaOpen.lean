/-
  The arguments of this seat's laws opened: bytes; and what the bound on their bulk gives.
-/
import Derived.Test.YtbhjcfhpabnadaaRows
import Derived.Test.YtbhjcfhpabnadaaMore
import Derived.ProofKit
import Derived.OpenShut
import Derived.JoinedCond
import Derived.Deep.Slices
namespace Go.Proofs.Ytbhjcfhpabnadaa
open Go.ChangeShapes Go.WideShapes Go.ChangeAt Go.RowKit Go.Deep

theorem Try.own : ownKnob Try.prog.godebug = none := by kernel_rfl
theorem Try.laidOut : laidOutB Try.prog = true := by kernel_rfl

theorem bulk_one {H : Type} (d : DataW H) : 1 ≤ Rows.uptoBulk d := by
  cases d with
  | lit l => cases l <;> simp [Rows.uptoBulk]
  | nil => simp [Rows.uptoBulk]
  | ptr d => simp [Rows.uptoBulk]
  | slice elems spare => simp [Rows.uptoBulk]
  | agg parts => simp [Rows.uptoBulk]
  | iface t d => simp [Rows.uptoBulk]
  | map entries => simp [Rows.uptoBulk]
  | held h => simp [Rows.uptoBulk]

theorem bulk_len {H : Type} (l : List (DataW H)) : l.length ≤ Rows.uptoBulkAll l := by
  induction l with
  | nil => simp [Rows.uptoBulkAll]
  | cons x r ih =>
    have := bulk_one x
    simp only [Rows.uptoBulkAll, List.length_cons]
    omega

theorem bulk_mem {H : Type} {l : List (DataW H)} {d : DataW H} (hd : d ∈ l) : Rows.uptoBulk d ≤ Rows.uptoBulkAll l := by
  induction l with
  | nil => cases hd
  | cons y r ih =>
    simp only [Rows.uptoBulkAll]
    rcases List.mem_cons.1 hd with rfl | hd
    · omega
    · have := ih hd; omega

section
variable {H : Type} {enc : TypeId × Value → H} {w : World} {spare : Nat → Bool} {held : Bool}

theorem open_bytes {fuel : Nat} {cs : List Value} {x : DataW H × List MemPlace} (h : DataW.trod enc Try.prog w 0 spare held fuel 22 cs = some x) :
    ∃ A xs c, cs = [.slice A (List.length (α := UInt8) xs) c] ∧ Rd w w.heap.size A (bv xs) ∧ xs.length + 1 ≤ Rows.uptoBulk x.1 := by
  rcases open_ints Try.underlying22 Try.underlying5 (by kernel_rfl) h with ⟨rfl, rfl⟩ | ⟨a, len, cap, zs, rfl, _, hl, _, hz, rfl, hcell, hwz⟩
  · exact ⟨none, [], 0, rfl, Rd.nil_ _ _ _, by simp [Rows.uptoBulk]⟩
  · have hle : len ≤ zs.length := by rw [hz]; split <;> omega
    have hxl : ((zs.take len).map u8).length = len := by simp; omega
    refine ⟨some a, (zs.take len).map u8, cap, by rw [hxl], ?_, ?_⟩
    · intro j u hu
      have hj : j < len := by
        have := (List.getElem?_eq_some_iff.1 hu).1
        rw [bv_length, hxl] at this
        exact this
      have hc := hcell j (by omega)
      have hw := bounds_u8 (hwz zs[j] (List.getElem_mem (by omega)))
      have hbj := bv_get ((zs.take len).map u8) j (by omega)
      rw [hbj] at hu
      injection hu with hu
      subst hu
      refine ⟨a, rfl, World.block_lt_of_cell? w _ hc |> (by simpa [add_block] using ·), ?_⟩
      rw [hc, List.getElem_map, List.getElem_take, u8_val hw.1 hw.2]
      simp [List.getD, show j < zs.length by omega]
    · have h1 := bulk_len (H := H) (lits .u8 (zs.take len))
      simp only [Rows.uptoBulk, hxl]
      simp only [lits, List.length_map, List.length_take] at h1
      simp only [lits]
      omega

/-- A []byte argument. -/
theorem arg_bytes {v : Value} {d : DataW H} {p : List MemPlace} (hv : ∃ a n c, v = .slice a n c) (h : DataW.Trod enc Try.prog w 0 spare held 22 v d p) :
    ∃ A xs c, v = .slice A (List.length (α := UInt8) xs) c ∧ Rd w w.heap.size A (bv xs) ∧ xs.length + 1 ≤ Rows.uptoBulk d := by
  obtain ⟨fuel, hf⟩ := h
  obtain ⟨A, xs, c, hcs, hr, hb⟩ := open_bytes hf
  obtain ⟨a, n, k, rfl⟩ := hv
  exact ⟨A, xs, c, by simpa [Value.cells] using hcs, hr, hb⟩
end

end Go.Proofs.Ytbhjcfhpabnadaa
