/-
  Arguments opened: lists of ints, a message, lists of messages; what the bound on their bulk gives.
-/
import Derived.Test.YtbhjcfhpabnadaaOpenB
import Derived.Test.YtbhjcfhpabnadaaTur
import Derived.Lib.SmallJoins
namespace Go.Proofs.Ytbhjcfhpabnadaa
open Go.ChangeShapes Go.WideShapes Go.ChangeAt Go.RowKit Go.Deep Go.WideElems Go.Maps

section
variable {H : Type} {enc : TypeId × Value → H} {w : World} {spare : Nat → Bool} {held : Bool}

theorem arg_len {A : Option Addr} {n c : Nat} {d : DataW H} {p : List MemPlace} (h : DataW.Trod enc Try.prog w 0 spare held 22 (.slice A n c) d p) : n ≤ 9223372036854775807 := by
  obtain ⟨fuel, hf⟩ := h
  rcases open_ints Try.underlying22 Try.underlying5 (by kernel_rfl) hf with ⟨hcs, _⟩ | ⟨a, len, cap, zs, hcs, _, hl, hm, _⟩
  · have : Value.slice A n c = .slice none 0 0 := by simpa [Value.cells] using hcs
    injection this with h1 h2 h3
    omega
  · have : Value.slice A n c = .slice (some a) len cap := by simpa [Value.cells] using hcs
    injection this with h1 h2 h3
    unfold maxLen at hm
    omega

theorem open_intsR {fuel : Nat} {cs : List Value} {x : DataW H × List MemPlace} (h : DataW.trod enc Try.prog w 0 spare held fuel 36 cs = some x) :
    ∃ A zs c, cs = [.slice A (List.length (α := Int) zs) c] ∧ Rd w w.heap.size A (zs.map (Value.int .i64)) ∧ zs.length ≤ 9223372036854775807 ∧ zs.length + 1 ≤ Rows.uptoBulk x.1 := by
  rcases open_ints Try.underlying36 Try.underlying3 (by kernel_rfl) h with ⟨rfl, rfl⟩ | ⟨a, len, cap, zs, rfl, _, hl, hm, hz, rfl, hcell, hwz⟩
  · exact ⟨none, [], 0, rfl, Rd.nil_ _ _ _, by simp, by simp [Rows.uptoBulk]⟩
  · have hle : len ≤ zs.length := by rw [hz]; split <;> omega
    have hxl : (zs.take len).length = len := by simp; omega
    refine ⟨some a, zs.take len, cap, by rw [hxl], ?_, by rw [hxl]; unfold maxLen at hm; omega, ?_⟩
    · intro j u hu
      have hj : j < len := by
        have := (List.getElem?_eq_some_iff.1 hu).1
        rw [List.length_map, hxl] at this
        exact this
      have hc := hcell j (by omega)
      rw [List.getElem?_map, List.getElem?_take, if_pos hj, List.getElem?_eq_getElem (by omega)] at hu
      injection hu with hu
      subst hu
      refine ⟨a, rfl, World.block_lt_of_cell? w _ hc |> (by simpa [add_block] using ·), ?_⟩
      rw [hc]
      simp [List.getD, show j < zs.length by omega]
    · have h1 := bulk_len (H := H) (lits .i64 (zs.take len))
      simp only [Rows.uptoBulk, hxl]
      simp only [lits, List.length_map, List.length_take] at h1
      simp only [lits]
      omega

/-- A []int argument. -/
theorem arg_ints {v : Value} {d : DataW H} {p : List MemPlace} (hv : ∃ a n c, v = .slice a n c) (h : DataW.Trod enc Try.prog w 0 spare held 36 v d p) :
    ∃ A zs c, v = .slice A (List.length (α := Int) zs) c ∧ Rd w w.heap.size A (zs.map (Value.int .i64)) ∧ zs.length ≤ 9223372036854775807 ∧ zs.length + 1 ≤ Rows.uptoBulk d := by
  obtain ⟨fuel, hf⟩ := h
  obtain ⟨A, xs, c, hcs, hr, hb⟩ := open_intsR hf
  obtain ⟨a, n, k, rfl⟩ := hv
  exact ⟨A, xs, c, by simpa [Value.cells] using hcs, hr, hb⟩
end

section
variable {H : Type} {enc : TypeId × Value → H} {P : Program} {w : World} {base : Nat} {spare : Nat → Bool} {held : Bool}

theorem list7 {α : Type} {l : List α} (h : l.length = 7) : ∃ c0 c1 c2 c3 c4 c5 c6, l = [c0, c1, c2, c3, c4, c5, c6] := by
  match l, h with
  | [c0, c1, c2, c3, c4, c5, c6], _ => exact ⟨c0, c1, c2, c3, c4, c5, c6, rfl⟩
theorem array7 {α : Type} {cs : Array α} (h : cs.size = 7) : ∃ c0 c1 c2 c3 c4 c5 c6, cs = #[c0, c1, c2, c3, c4, c5, c6] := by
  obtain ⟨l⟩ := cs
  match l, h with
  | [c0, c1, c2, c3, c4, c5, c6], _ => exact ⟨c0, c1, c2, c3, c4, c5, c6, rfl⟩

theorem trod_struct7 {t : TypeId} {f0 f1 f2 f3 f4 f5 f6 : Field} {fuel : Nat} {cs : List Value} {x : DataW H × List MemPlace} (ht : P.underlying t = some (.struct #[f0, f1, f2, f3, f4, f5, f6])) (h : DataW.trod enc P w base spare held fuel t cs = some x) :
    ∃ y0 y1 y2 y3 y4 y5 y6 n, x.1 = .agg [y0.1, y1.1, y2.1, y3.1, y4.1, y5.1, y6.1] ∧ cs.length = P.cellsOf t ∧ DataW.trod enc P w base spare held n f0.type ((cs.drop f0.offset).take (P.cellsOf f0.type)) = some y0 ∧
      DataW.trod enc P w base spare held n f1.type ((cs.drop f1.offset).take (P.cellsOf f1.type)) = some y1 ∧ DataW.trod enc P w base spare held n f2.type ((cs.drop f2.offset).take (P.cellsOf f2.type)) = some y2 ∧
      DataW.trod enc P w base spare held n f3.type ((cs.drop f3.offset).take (P.cellsOf f3.type)) = some y3 ∧ DataW.trod enc P w base spare held n f4.type ((cs.drop f4.offset).take (P.cellsOf f4.type)) = some y4 ∧
      DataW.trod enc P w base spare held n f5.type ((cs.drop f5.offset).take (P.cellsOf f5.type)) = some y5 ∧ DataW.trod enc P w base spare held n f6.type ((cs.drop f6.offset).take (P.cellsOf f6.type)) = some y6 := by
  obtain ⟨xs, n, _, rfl, hl, hlen, hf⟩ := DataW.trod_struct ht h
  match xs, hlen with
  | [y0, y1, y2, y3, y4, y5, y6], _ => exact ⟨y0, y1, y2, y3, y4, y5, y6, n, by simp, hl, by simpa using hf 0 f0 rfl, by simpa using hf 1 f1 rfl, by simpa using hf 2 f2 rfl, by simpa using hf 3 f3 rfl, by simpa using hf 4 f4 rfl, by simpa using hf 5 f5 rfl, by simpa using hf 6 f6 rfl⟩

set_option maxRecDepth 100000 in
/-- A message among the cells of a list, or by itself. -/
theorem open_msg_cells {cs : List Value} {fuel : Nat} {x : DataW H × List MemPlace} (h : DataW.trod enc Try.prog w base spare held fuel 57 cs = some x) :
    ∃ (kind : Int) (name : ByteArray) (ver frm nonce err : Int) (text : ByteArray), cs = [.int .i64 kind, .string name, .int .i64 ver, .int .i64 frm, .int .i64 nonce, .int .i64 err, .string text] ∧ name.size + text.size + 8 ≤ Rows.uptoBulk x.1 := by
  obtain ⟨y0, y1, y2, y3, y4, y5, y6, n, hx, hl, h0, h1, h2, h3, h4, h5, h6⟩ := trod_struct7 Try.underlying57 h
  have C57 : Try.prog.cellsOf 57 = 7 := by kernel_rfl
  have C3 : Try.prog.cellsOf 3 = 1 := by kernel_rfl
  have C9 : Try.prog.cellsOf 9 = 1 := by kernel_rfl
  rw [C57] at hl
  obtain ⟨c0, c1, c2, c3, c4, c5, c6, rfl⟩ := list7 hl
  simp only [C3, C9, List.drop_zero, List.drop_succ_cons, List.take_succ_cons, List.take_zero] at h0 h1 h2 h3 h4 h5 h6
  obtain ⟨z0, q0, rfl, _⟩ := DataW.trod_int Try.underlying3 h0
  obtain ⟨s1, q1, rfl, _⟩ := DataW.trod_string Try.underlying9 h1
  obtain ⟨z2, q2, rfl, _⟩ := DataW.trod_int Try.underlying3 h2
  obtain ⟨z3, q3, rfl, _⟩ := DataW.trod_int Try.underlying3 h3
  obtain ⟨z4, q4, rfl, _⟩ := DataW.trod_int Try.underlying3 h4
  obtain ⟨z5, q5, rfl, _⟩ := DataW.trod_int Try.underlying3 h5
  obtain ⟨s6, q6, rfl, _⟩ := DataW.trod_string Try.underlying9 h6
  simp only [List.cons.injEq, and_true] at q0 q1 q2 q3 q4 q5 q6
  subst q0 q1 q2 q3 q4 q5 q6
  refine ⟨z0, s1, z2, z3, z4, z5, s6, rfl, ?_⟩
  rw [hx]
  simp only [Rows.uptoBulk, Rows.uptoBulkAll]
  have e1 : s1.data.toList.length = s1.size := by show s1.data.toList.length = s1.data.size; simp
  have e6 : s6.data.toList.length = s6.size := by show s6.data.toList.length = s6.data.size; simp
  omega

set_option maxRecDepth 100000 in
theorem open_msg {r : Reach} {b0 : Nat} {v : Value} {d : DataW H} {p : List MemPlace} (hv : Value.okWide Try.prog w r b0 57 v) (h : DataW.Trod enc Try.prog w base spare held 57 v d p) :
    ∃ (kind : Int) (name : ByteArray) (ver frm nonce err : Int) (text : ByteArray), v = .agg #[.int .i64 kind, .string name, .int .i64 ver, .int .i64 frm, .int .i64 nonce, .int .i64 err, .string text] ∧ name.size + text.size + 8 ≤ Rows.uptoBulk d := by
  obtain ⟨cs, rfl, hsz⟩ := okWide_struct Try.underlying57 hv
  obtain ⟨fuel, hf⟩ := h
  obtain ⟨kind, name, ver, frm, nonce, err, text, hcs, hb⟩ := open_msg_cells hf
  refine ⟨kind, name, ver, frm, nonce, err, text, ?_, hb⟩
  simp only [Value.cells] at hcs
  exact congrArg Value.agg (Array.ext' hcs)
end

section
variable {H : Type} {enc : TypeId × Value → H} {w : World} {spare : Nat → Bool} {held : Bool}

def wgt (m : Msg) : Nat := m.name.size + m.text.size + 8
def totM (ms : List Msg) : Nat := (ms.map wgt).sum
theorem totM_len : ∀ (ms : List Msg), 8 * ms.length ≤ totM ms
  | [] => by simp [totM]
  | m :: ms => by
    have ih := totM_len ms
    simp only [totM, List.map_cons, List.sum_cons, List.length_cons, wgt] at ih ⊢
    omega
theorem totM_bulk : ∀ (l : List Msg) (ds : List (DataW H)), l.length = ds.length → (∀ i (h : i < l.length) (h' : i < ds.length), wgt l[i] ≤ Rows.uptoBulk ds[i]) → totM l ≤ Rows.uptoBulkAll ds
  | [], _, _, _ => by simp [totM]
  | p :: l, [], h, _ => by simp at h
  | p :: l, d :: ds, h, hi => by
    have h0 := hi 0 (by simp) (by simp)
    have ih := totM_bulk l ds (by simpa using h) (fun i h1 h2 => hi (i + 1) (by simp; omega) (by simp; omega))
    simp only [List.getElem_cons_zero] at h0
    simp only [totM, List.map_cons, List.sum_cons, Rows.uptoBulkAll] at ih ⊢
    omega

theorem pick_lt' {α : Type} [Inhabited α] {n : Nat} {R : Nat → α → Prop} (h : ∀ i, i < n → ∃ x, R i x) : ∃ f : Nat → α, ∀ i, i < n → R i (f i) :=
  ⟨fun i => if hi : i < n then Classical.choose (h i hi) else default, fun i hi => by
    simp only [hi, dif_pos]
    exact Classical.choose_spec (h i hi)⟩

theorem open_msgs {fuel : Nat} {cs : List Value} {x : DataW H × List MemPlace} (h : DataW.trod enc Try.prog w 0 spare held fuel 78 cs = some x) :
    ∃ A l c, cs = [.slice A (List.length (α := Msg) l) c] ∧ Rd w w.heap.size A (mv l) ∧ totM l ≤ Rows.uptoBulk x.1 := by
  rcases open_slice Try.underlying78 h with ⟨rfl, rfl⟩ | ⟨a, len, cap, m, n, D, Pl, rfl, _, hl, _, hm, rfl, hi⟩
  · exact ⟨none, [], 0, rfl, Rd.nil_ _ _ _, by simp [totM]⟩
  · have hle : len ≤ m := by rw [hm]; split <;> omega
    have C57 : Try.prog.cellsOf 57 = 7 := by kernel_rfl
    haveI : Inhabited Msg := ⟨⟨0, ⟨#[]⟩, 0, 0, 0, 0, ⟨#[]⟩⟩⟩
    have each : ∀ i, i < len → ∃ q : Msg, (∀ j v, (msgC q)[j]? = some v → a.block < w.heap.size ∧ w.cell? (a.add (i * 7 + j)) = some v) ∧ wgt q ≤ Rows.uptoBulk (D i) := by
      intro i hil
      obtain ⟨cs', hc, ht⟩ := hi i (by omega)
      rw [C57] at hc
      obtain ⟨_, hcl, hat⟩ := World.cells?_some hc
      obtain ⟨kd, nm, ve, fr, no, er, tx, e, hb⟩ := open_msg_cells ht
      subst e
      refine ⟨⟨kd, nm, ve, fr, no, er, tx⟩, fun j v hj => ?_, hb⟩
      have hj7 : j < 7 := (List.getElem?_eq_some_iff.1 hj).1
      have q0 := hat j hj7
      simp only [add_add'] at q0
      have q1 := q0.trans hj
      have hbl := World.block_lt_of_cell? w _ q1
      rw [add_block] at hbl
      exact ⟨hbl, q1⟩
    obtain ⟨f, hf⟩ := pick_lt' each
    have hlen : ((List.range len).map f).length = len := by simp
    have htb : totM ((List.range len).map f) ≤ Rows.uptoBulkAll ((List.range len).map D) := by
      refine totM_bulk _ _ (by simp) fun i h1 h2 => ?_
      rw [hlen] at h1
      obtain ⟨_, hb⟩ := hf i h1
      simp only [List.getElem_map, List.getElem_range]
      exact hb
    have hsb : Rows.uptoBulkAll ((List.range len).map D) ≤ Rows.uptoBulk (.slice ((List.range len).map D) ((List.range (m - len)).map fun j => D (len + j))) := by
      simp only [Rows.uptoBulk]
      omega
    refine ⟨some a, (List.range len).map f, cap, by rw [hlen], fun j u hu => ?_, Nat.le_trans htb hsb⟩
    have hj : j < len * 7 := by
      have := (List.getElem?_eq_some_iff.1 hu).1
      rw [mv_len, hlen] at this
      exact this
    have hk : j / 7 < len := by omega
    have hg : ((List.range len).map f)[j / 7]? = some (f (j / 7)) := by rw [List.getElem?_map, List.getElem?_range hk]; rfl
    have h1 := mv_get _ (j / 7) (j % 7) _ hg (Nat.mod_lt _ (by omega))
    rw [show j / 7 * 7 + j % 7 = j by omega] at h1
    obtain ⟨h2, h3⟩ := (hf (j / 7) hk).1 (j % 7) u (h1.symm.trans hu)
    rw [show j / 7 * 7 + j % 7 = j by omega] at h3
    exact ⟨a, rfl, h2, h3⟩

/-- A []Message argument. -/
theorem arg_msgs {v : Value} {d : DataW H} {p : List MemPlace} (hv : ∃ a n c, v = .slice a n c) (h : DataW.Trod enc Try.prog w 0 spare held 78 v d p) :
    ∃ A l c, v = .slice A (List.length (α := Msg) l) c ∧ Rd w w.heap.size A (mv l) ∧ totM l ≤ Rows.uptoBulk d := by
  obtain ⟨fuel, hf⟩ := h
  obtain ⟨A, xs, c, hcs, hr, hb⟩ := open_msgs hf
  obtain ⟨a, n, k, rfl⟩ := hv
  exact ⟨A, xs, c, by simpa [Value.cells] using hcs, hr, hb⟩
end

end Go.Proofs.Ytbhjcfhpabnadaa
