/-
  A [][]byte argument opened; what the bound on its bulk gives.
-/
import Derived.Test.YtbhjcfhpabnadaaOpenB
import Derived.Test.YtbhjcfhpabnadaaFramedS
namespace Go.Proofs.Ytbhjcfhpabnadaa
open Go.ChangeShapes Go.WideShapes Go.ChangeAt Go.RowKit Go.Deep

section
variable {H : Type} {enc : TypeId × Value → H} {w : World} {spare : Nat → Bool} {held : Bool}

theorem pick_lt {α : Type} [Inhabited α] {n : Nat} {R : Nat → α → Prop} (h : ∀ i, i < n → ∃ x, R i x) : ∃ f : Nat → α, ∀ i, i < n → R i (f i) :=
  ⟨fun i => if hi : i < n then Classical.choose (h i hi) else default, fun i hi => by
    simp only [hi, dif_pos]
    exact Classical.choose_spec (h i hi)⟩

theorem total_bulk : ∀ (l : List (List UInt8)) (ds : List (DataW H)), l.length = ds.length → (∀ i (h : i < l.length) (h' : i < ds.length), l[i].length + 1 ≤ Rows.uptoBulk ds[i]) → totalB l ≤ Rows.uptoBulkAll ds
  | [], _, _, _ => by simp [totalB]
  | p :: l, [], h, _ => by simp at h
  | p :: l, d :: ds, h, hi => by
    have h0 := hi 0 (by simp) (by simp)
    have ih := total_bulk l ds (by simpa using h) (fun i h1 h2 => hi (i + 1) (by simp; omega) (by simp; omega))
    simp only [List.getElem_cons_zero] at h0
    simp only [totalB, List.map_cons, List.sum_cons, Rows.uptoBulkAll] at ih ⊢
    omega

theorem open_lists {fuel : Nat} {cs : List Value} {x : DataW H × List MemPlace} (h : DataW.trod enc Try.prog w 0 spare held fuel 35 cs = some x) :
    ∃ A l c, cs = [.slice A (List.length (α := List UInt8) l) c] ∧ LL w w.heap.size A l ∧ totalB l ≤ Rows.uptoBulk x.1 := by
  rcases open_slice Try.underlying35 h with ⟨rfl, rfl⟩ | ⟨a, len, cap, m, n, D, Pl, rfl, _, hl, _, hm, rfl, hi⟩
  · exact ⟨none, [], 0, rfl, ⟨[], Rd.nil_ _ _ _, rfl, fun j v hj => by simp at hj⟩, by simp [totalB]⟩
  · have hle : len ≤ m := by rw [hm]; split <;> omega
    have C22 : Try.prog.cellsOf 22 = 1 := by kernel_rfl
    have each : ∀ i, i < len → ∃ p : List UInt8, ∃ S c, (a.add i).block < w.heap.size ∧ w.cell? (a.add i) = some (.slice S p.length c) ∧ Rd w w.heap.size S (bv p) ∧ p.length + 1 ≤ Rows.uptoBulk (D i) := by
      intro i hil
      obtain ⟨cs', hc, ht⟩ := hi i (by omega)
      rw [C22] at hc
      obtain ⟨_, hcl, hat⟩ := World.cells?_some hc
      obtain ⟨S, p, c, e, hr, hb⟩ := open_bytes ht
      subst e
      have q0 := hat 0 (by omega)
      simp only [add_add', List.getElem?_cons_zero, Nat.mul_one, Nat.add_zero] at q0
      exact ⟨p, S, c, World.block_lt_of_cell? w _ q0, q0, hr, hb⟩
    obtain ⟨f, hf⟩ := pick_lt each
    have hlen : ((List.range len).map f).length = len := by simp
    have htb : totalB ((List.range len).map f) ≤ Rows.uptoBulkAll ((List.range len).map D) := by
      refine total_bulk _ _ (by simp) fun i h1 h2 => ?_
      rw [hlen] at h1
      obtain ⟨_, _, _, _, _, hb⟩ := hf i h1
      simp only [List.getElem_map, List.getElem_range]
      exact hb
    have hsb : Rows.uptoBulkAll ((List.range len).map D) ≤ Rows.uptoBulk (.slice ((List.range len).map D) ((List.range (m - len)).map fun j => D (len + j))) := by
      simp only [Rows.uptoBulk]
      omega
    refine ⟨some a, (List.range len).map f, cap, by rw [hlen], ?_, Nat.le_trans htb hsb⟩
    have each2 : ∀ i, i < len → ∃ v : Value, (a.add i).block < w.heap.size ∧ w.cell? (a.add i) = some v ∧ ∃ S c, v = .slice S (f i).length c ∧ Rd w w.heap.size S (bv (f i)) := by
      intro i hil
      obtain ⟨S, c, h1, h2, h3, _⟩ := hf i hil
      exact ⟨_, h1, h2, S, c, rfl, h3⟩
    obtain ⟨g, hg⟩ := pick_lt each2
    refine ⟨(List.range len).map g, fun j u hu => ?_, by simp, fun j v hj => ?_⟩
    · rw [List.getElem?_map] at hu
      have hj : j < len := by
        rcases Nat.lt_or_ge j len with h | h
        · exact h
        · rw [List.getElem?_eq_none (by simpa using h)] at hu
          cases hu
      rw [List.getElem?_range hj] at hu
      obtain rfl := Option.some.inj hu
      obtain ⟨h1, h2, _⟩ := hg j hj
      rw [add_block] at h1
      exact ⟨a, rfl, h1, h2⟩
    · rw [List.getElem?_map] at hj
      have hjl : j < len := by
        rcases Nat.lt_or_ge j len with h | h
        · exact h
        · rw [List.getElem?_eq_none (by simpa using h)] at hj
          cases hj
      rw [List.getElem?_range hjl] at hj
      obtain rfl := Option.some.inj hj
      obtain ⟨_, _, S, c, h3, h4⟩ := hg j hjl
      exact ⟨f j, S, c, by rw [List.getElem?_map, List.getElem?_range hjl]; rfl, h3, h4⟩

/-- A [][]byte argument. -/
theorem arg_lists {v : Value} {d : DataW H} {p : List MemPlace} (hv : ∃ a n c, v = .slice a n c) (h : DataW.Trod enc Try.prog w 0 spare held 35 v d p) :
    ∃ A l c, v = .slice A (List.length (α := List UInt8) l) c ∧ LL w w.heap.size A l ∧ totalB l ≤ Rows.uptoBulk d := by
  obtain ⟨fuel, hf⟩ := h
  obtain ⟨A, xs, c, hcs, hr, hb⟩ := open_lists hf
  obtain ⟨a, n, k, rfl⟩ := hv
  exact ⟨A, xs, c, by simpa [Value.cells] using hcs, hr, hb⟩
end

end Go.Proofs.Ytbhjcfhpabnadaa
