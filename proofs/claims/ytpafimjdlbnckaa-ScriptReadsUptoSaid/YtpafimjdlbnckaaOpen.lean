/-
  The arguments of this seat's laws opened: bytes, and steps; and what the bound on their bulk gives.
-/
import Derived.Test.YtpafimjdlbnckaaRows
import Derived.Test.YtpafimjdlbnckaaSteps
import Derived.ProofKit
import Derived.OpenShut
import Derived.JoinedCond
import Derived.Deep.Slices
import Derived.Deep.Fields
namespace Go.Proofs.Ytpafimjdlbnckaa
open Go.ChangeShapes Go.WideShapes Go.ChangeAt Go.RowKit Go.Deep

theorem bulk_one {H : Type} (d : DataW H) : 1 ≤ Rows.uptoBulk d := by
  cases d with
  | lit l => cases l <;> simp [Rows.uptoBulk]
  | nil => simp [Rows.uptoBulk]
  | ptr d => simp [Rows.uptoBulk]
  | slice elems spare => simp [Rows.uptoBulk]
  | agg parts => simp [Rows.uptoBulk]
  | iface t d => simp [Rows.uptoBulk]
  | map entries => simp [Rows.uptoBulk]
  | held h => simp [Rows.uptoBulk]

theorem bulk_len {H : Type} (l : List (DataW H)) : l.length ≤ Rows.uptoBulkAll l := by
  induction l with
  | nil => simp [Rows.uptoBulkAll]
  | cons x r ih =>
    have := bulk_one x
    simp only [Rows.uptoBulkAll, List.length_cons]
    omega

section
variable {H : Type} {enc : TypeId × Value → H} {w : World} {spare : Nat → Bool} {held : Bool}

theorem open_bytes {fuel : Nat} {cs : List Value} {x : DataW H × List MemPlace} (h : DataW.trod enc Try.prog w 0 spare held fuel 24 cs = some x) :
    ∃ A xs c, cs = [.slice A (List.length (α := UInt8) xs) c] ∧ Rd w w.heap.size A (bv xs) ∧ xs.length + 1 ≤ Rows.uptoBulk x.1 := by
  rcases open_ints Try.underlying24 Try.underlying5 (by kernel_rfl) h with ⟨rfl, rfl⟩ | ⟨a, len, cap, zs, rfl, _, hl, _, hz, rfl, hcell, hwz⟩
  · exact ⟨none, [], 0, rfl, Rd.nil_ _ _ _, by simp [Rows.uptoBulk]⟩
  · have hle : len ≤ zs.length := by rw [hz]; split <;> omega
    have hxl : ((zs.take len).map u8).length = len := by simp; omega
    refine ⟨some a, (zs.take len).map u8, cap, by rw [hxl], ?_, ?_⟩
    · intro j u hu
      have hj : j < len := by
        have := (List.getElem?_eq_some_iff.1 hu).1
        rw [bv_length, hxl] at this
        exact this
      have hc := hcell j (by omega)
      have hw := bounds_u8 (hwz zs[j] (List.getElem_mem (by omega)))
      have hbj := bv_get ((zs.take len).map u8) j (by omega)
      rw [hbj] at hu
      injection hu with hu
      subst hu
      refine ⟨a, rfl, World.block_lt_of_cell? w _ hc |> (by simpa [add_block] using ·), ?_⟩
      rw [hc, List.getElem_map, List.getElem_take, u8_val hw.1 hw.2]
      simp [List.getD, show j < zs.length by omega]
    · have h1 := bulk_len (H := H) (lits .u8 (zs.take len))
      simp only [Rows.uptoBulk, hxl]
      simp only [lits, List.length_map, List.length_take] at h1
      simp only [lits]
      omega

theorem enc_bulk : ∀ (l : List St) (ds : List (DataW H)), l.length = ds.length → (∀ i (h : i < l.length) (h' : i < ds.length), (encS l[i]).length ≤ Rows.uptoBulk ds[i]) → (encL l).length ≤ Rows.uptoBulkAll ds
  | [], _, _, _ => by simp [encL]
  | s :: l, [], h, _ => by simp at h
  | s :: l, d :: ds, h, hi => by
    have h0 := hi 0 (by simp) (by simp)
    have ih := enc_bulk l ds (by simpa using h) (fun i h1 h2 => hi (i + 1) (by simp; omega) (by simp; omega))
    simp only [List.getElem_cons_zero] at h0
    simp only [Rows.uptoBulkAll]
    unfold encL at *
    rw [List.flatMap_cons, List.length_append]
    omega

theorem encS_le (s : St) : (encS s).length ≤ 5 + s.data.length := by
  cases h : carB s.op
  · rw [encS_len_not h]; omega
  · rw [encS_len_car h]; omega

instance : Inhabited St := ⟨⟨0, 0, 0, []⟩⟩

theorem open_steps {fuel : Nat} {cs : List Value} {x : DataW H × List MemPlace} (h : DataW.trod enc Try.prog w 0 spare held fuel 22 cs = some x) :
    ∃ A l c, cs = [.slice A (List.length (α := St) l) c] ∧ StAt w w.heap.size 4 A l ∧ l.length ≤ Rows.uptoBulk x.1 ∧ (∀ s ∈ l, s.data.length ≤ Rows.uptoBulk x.1) ∧ (encL l).length ≤ Rows.uptoBulk x.1 := by
  rcases open_slice Try.underlying22 h with ⟨rfl, rfl⟩ | ⟨a, len, cap, m, n, D, Pl, rfl, _, hl, _, hm, rfl, hi⟩
  · exact ⟨none, [], 0, rfl, fun k hk => by simp at hk, by simp, by simp, by simp [encL]⟩
  · have hle : len ≤ m := by rw [hm]; split <;> omega
    have C26 : Try.prog.cellsOf 26 = 4 := by kernel_rfl
    have C3 : Try.prog.cellsOf 3 = 1 := by kernel_rfl
    have C24 : Try.prog.cellsOf 24 = 1 := by kernel_rfl
    have hsp0 : 0 < len → a.spot = none := by
      intro h0
      obtain ⟨cs', hc, _⟩ := hi 0 (by omega)
      rw [C26] at hc
      obtain ⟨_, hcl, hat⟩ := World.cells?_some hc
      have q := hat 0 (by omega)
      rw [List.getElem?_eq_getElem (by omega)] at q
      simpa [Addr.add] using World.cell?_spot q
    have each : ∀ i, i < len → ∃ s : St, ∃ b o S c, a = ⟨b, o, none⟩ ∧ b < w.heap.size ∧ w.cell? ⟨b, o + i * 4, none⟩ = some (.int .i64 s.op) ∧ w.cell? ⟨b, o + i * 4 + 1, none⟩ = some (.int .i64 s.a) ∧
        w.cell? ⟨b, o + i * 4 + 2, none⟩ = some (.int .i64 s.b) ∧ w.cell? ⟨b, o + i * 4 + 3, none⟩ = some (.slice S s.data.length c) ∧ Rd w w.heap.size S (bv s.data) ∧ 5 + s.data.length ≤ Rows.uptoBulk (D i) := by
      intro i hil
      obtain ⟨cs', hc, ht⟩ := hi i (by omega)
      rw [C26] at hc
      obtain ⟨_, hcl, hat⟩ := World.cells?_some hc
      obtain ⟨ys, n', rfl, hx, _, hyl, hf⟩ := DataW.trod_struct Try.underlying26 ht
      match cs', hcl with
      | [c0, c1, c2, c3], _ =>
        match ys, hyl with
        | [y0, y1, y2, y3], _ =>
          have f0 : DataW.trod enc Try.prog w 0 spare held n' 3 [c0] = some y0 := by simpa [C3] using hf 0 _ rfl
          have f1 : DataW.trod enc Try.prog w 0 spare held n' 3 [c1] = some y1 := by simpa [C3] using hf 1 _ rfl
          have f2 : DataW.trod enc Try.prog w 0 spare held n' 3 [c2] = some y2 := by simpa [C3] using hf 2 _ rfl
          have f3 : DataW.trod enc Try.prog w 0 spare held n' 24 [c3] = some y3 := by simpa [C24] using hf 3 _ rfl
          obtain ⟨z0, e0, rfl, _⟩ := DataW.trod_int Try.underlying3 f0
          obtain ⟨z1, e1, rfl, _⟩ := DataW.trod_int Try.underlying3 f1
          obtain ⟨z2, e2, rfl, _⟩ := DataW.trod_int Try.underlying3 f2
          obtain ⟨S, xs, c, e3, hr, hb⟩ := open_bytes f3
          simp only [List.cons.injEq, and_true] at e0 e1 e2 e3
          subst e0 e1 e2 e3
          have q0 := hat 0 (by omega)
          have q1 := hat 1 (by omega)
          have q2 := hat 2 (by omega)
          have q3 := hat 3 (by omega)
          simp only [add_add', List.getElem?_cons_zero, List.getElem?_cons_succ] at q0 q1 q2 q3
          have hbl := World.block_lt_of_cell? w _ q0
          rw [add_block] at hbl
          have hsp' := hsp0 (by omega)
          obtain ⟨b, o, sp⟩ := a
          simp only at hsp'
          subst hsp'
          simp only [Addr.add_lit, Nat.add_zero, ← Nat.add_assoc] at q0 q1 q2 q3
          refine ⟨⟨z0, z1, z2, xs⟩, b, o, S, c, rfl, hbl, q0, q1, q2, q3, hr, ?_⟩
          simp only [Prod.mk.injEq] at hx
          rw [hx.1]
          simp only [List.map_cons, List.map_nil, Rows.uptoBulk, Rows.uptoBulkAll]
          omega
    obtain ⟨f, hf⟩ := choose_lt each
    have hsb : Rows.uptoBulkAll ((List.range len).map D) + 1 ≤ Rows.uptoBulk (.slice ((List.range len).map D) ((List.range (m - len)).map fun j => D (len + j))) := by
      simp only [Rows.uptoBulk]
      omega
    have hlen : ((List.range len).map f).length = len := by simp
    have hbl := bulk_len ((List.range len).map D)
    simp only [List.length_map, List.length_range] at hbl
    have hle2 : (encL ((List.range len).map f)).length ≤ Rows.uptoBulkAll ((List.range len).map D) := by
      refine enc_bulk _ _ (by simp) fun i h1 h2 => ?_
      rw [hlen] at h1
      obtain ⟨_, _, _, _, _, _, _, _, _, _, _, hb⟩ := hf i h1
      have := encS_le (f i)
      simp only [List.getElem_map, List.getElem_range]
      omega
    have hdl : ∀ s ∈ (List.range len).map f, s.data.length ≤ Rows.uptoBulkAll ((List.range len).map D) := by
      intro s hs
      obtain ⟨i, hi', rfl⟩ := List.mem_map.1 hs
      have hil := List.mem_range.1 hi'
      obtain ⟨_, _, _, _, _, _, _, _, _, _, _, hb⟩ := hf i hil
      have hmem : ∀ (l : List (DataW H)) (d : DataW H), d ∈ l → Rows.uptoBulk d ≤ Rows.uptoBulkAll l := by
        intro l d hd
        induction l with
        | nil => cases hd
        | cons y r ih =>
          simp only [Rows.uptoBulkAll]
          rcases List.mem_cons.1 hd with rfl | hd
          · omega
          · have := ih hd; omega
      have := hmem ((List.range len).map D) (D i) (List.mem_map_of_mem hi')
      omega
    dsimp only
    refine ⟨some a, (List.range len).map f, cap, by rw [hlen], fun k hk => ?_, by rw [hlen]; omega, fun s hs => by have := hdl s hs; omega, by omega⟩
    rw [hlen] at hk
    obtain ⟨b, o, S, c, rfl, hb, q0, q1, q2, q3, hr, _⟩ := hf k hk
    exact ⟨b, o, S, c, rfl, hb, by simpa using q0, by simpa using q1, by simpa using q2, by simpa using q3, by simpa using hr⟩
end

end Go.Proofs.Ytpafimjdlbnckaa
