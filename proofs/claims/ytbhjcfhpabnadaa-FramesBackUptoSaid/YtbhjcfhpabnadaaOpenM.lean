/-
  A message that is an argument, opened.
-/
import Derived.Test.YtbhjcfhpabnadaaOpenB
import Derived.Lib.SmallJoins
namespace Go.Proofs.Ytbhjcfhpabnadaa
open Go.ChangeShapes Go.WideShapes Go.RowKit Go.Deep Go.WideElems Go.Maps

section
variable {H : Type} {enc : TypeId × Value → H} {P : Program} {w : World} {base : Nat} {spare : Nat → Bool} {held : Bool}

theorem list7 {α : Type} {l : List α} (h : l.length = 7) : ∃ c0 c1 c2 c3 c4 c5 c6, l = [c0, c1, c2, c3, c4, c5, c6] := by
  match l, h with
  | [c0, c1, c2, c3, c4, c5, c6], _ => exact ⟨c0, c1, c2, c3, c4, c5, c6, rfl⟩
theorem array7 {α : Type} {cs : Array α} (h : cs.size = 7) : ∃ c0 c1 c2 c3 c4 c5 c6, cs = #[c0, c1, c2, c3, c4, c5, c6] := by
  obtain ⟨l⟩ := cs
  match l, h with
  | [c0, c1, c2, c3, c4, c5, c6], _ => exact ⟨c0, c1, c2, c3, c4, c5, c6, rfl⟩

theorem trod_struct7 {t : TypeId} {f0 f1 f2 f3 f4 f5 f6 : Field} {fuel : Nat} {cs : List Value} {x : DataW H × List MemPlace} (ht : P.underlying t = some (.struct #[f0, f1, f2, f3, f4, f5, f6])) (h : DataW.trod enc P w base spare held fuel t cs = some x) :
    ∃ y0 y1 y2 y3 y4 y5 y6 n, x.1 = .agg [y0.1, y1.1, y2.1, y3.1, y4.1, y5.1, y6.1] ∧ cs.length = P.cellsOf t ∧ DataW.trod enc P w base spare held n f0.type ((cs.drop f0.offset).take (P.cellsOf f0.type)) = some y0 ∧
      DataW.trod enc P w base spare held n f1.type ((cs.drop f1.offset).take (P.cellsOf f1.type)) = some y1 ∧ DataW.trod enc P w base spare held n f2.type ((cs.drop f2.offset).take (P.cellsOf f2.type)) = some y2 ∧
      DataW.trod enc P w base spare held n f3.type ((cs.drop f3.offset).take (P.cellsOf f3.type)) = some y3 ∧ DataW.trod enc P w base spare held n f4.type ((cs.drop f4.offset).take (P.cellsOf f4.type)) = some y4 ∧
      DataW.trod enc P w base spare held n f5.type ((cs.drop f5.offset).take (P.cellsOf f5.type)) = some y5 ∧ DataW.trod enc P w base spare held n f6.type ((cs.drop f6.offset).take (P.cellsOf f6.type)) = some y6 := by
  obtain ⟨xs, n, _, rfl, hl, hlen, hf⟩ := DataW.trod_struct ht h
  match xs, hlen with
  | [y0, y1, y2, y3, y4, y5, y6], _ => exact ⟨y0, y1, y2, y3, y4, y5, y6, n, by simp, hl, by simpa using hf 0 f0 rfl, by simpa using hf 1 f1 rfl, by simpa using hf 2 f2 rfl, by simpa using hf 3 f3 rfl, by simpa using hf 4 f4 rfl, by simpa using hf 5 f5 rfl, by simpa using hf 6 f6 rfl⟩

set_option maxRecDepth 100000 in
/-- A message among the cells of a list, or by itself. -/
theorem open_msg_cells {cs : List Value} {fuel : Nat} {x : DataW H × List MemPlace} (h : DataW.trod enc Try.prog w base spare held fuel 57 cs = some x) :
    ∃ (kind : Int) (name : ByteArray) (ver frm nonce err : Int) (text : ByteArray), cs = [.int .i64 kind, .string name, .int .i64 ver, .int .i64 frm, .int .i64 nonce, .int .i64 err, .string text] ∧ name.size + text.size + 8 ≤ Rows.uptoBulk x.1 := by
  obtain ⟨y0, y1, y2, y3, y4, y5, y6, n, hx, hl, h0, h1, h2, h3, h4, h5, h6⟩ := trod_struct7 Try.underlying57 h
  have C57 : Try.prog.cellsOf 57 = 7 := by kernel_rfl
  have C3 : Try.prog.cellsOf 3 = 1 := by kernel_rfl
  have C9 : Try.prog.cellsOf 9 = 1 := by kernel_rfl
  rw [C57] at hl
  obtain ⟨c0, c1, c2, c3, c4, c5, c6, rfl⟩ := list7 hl
  simp only [C3, C9, List.drop_zero, List.drop_succ_cons, List.take_succ_cons, List.take_zero] at h0 h1 h2 h3 h4 h5 h6
  obtain ⟨z0, q0, rfl, _⟩ := DataW.trod_int Try.underlying3 h0
  obtain ⟨s1, q1, rfl, _⟩ := DataW.trod_string Try.underlying9 h1
  obtain ⟨z2, q2, rfl, _⟩ := DataW.trod_int Try.underlying3 h2
  obtain ⟨z3, q3, rfl, _⟩ := DataW.trod_int Try.underlying3 h3
  obtain ⟨z4, q4, rfl, _⟩ := DataW.trod_int Try.underlying3 h4
  obtain ⟨z5, q5, rfl, _⟩ := DataW.trod_int Try.underlying3 h5
  obtain ⟨s6, q6, rfl, _⟩ := DataW.trod_string Try.underlying9 h6
  simp only [List.cons.injEq, and_true] at q0 q1 q2 q3 q4 q5 q6
  subst q0 q1 q2 q3 q4 q5 q6
  refine ⟨z0, s1, z2, z3, z4, z5, s6, rfl, ?_⟩
  rw [hx]
  simp only [Rows.uptoBulk, Rows.uptoBulkAll]
  have e1 : s1.data.toList.length = s1.size := by show s1.data.toList.length = s1.data.size; simp
  have e6 : s6.data.toList.length = s6.size := by show s6.data.toList.length = s6.data.size; simp
  omega

set_option maxRecDepth 100000 in
theorem open_msg {r : Reach} {b0 : Nat} {v : Value} {d : DataW H} {p : List MemPlace} (hv : Value.okWide Try.prog w r b0 57 v) (h : DataW.Trod enc Try.prog w base spare held 57 v d p) :
    ∃ (kind : Int) (name : ByteArray) (ver frm nonce err : Int) (text : ByteArray), v = .agg #[.int .i64 kind, .string name, .int .i64 ver, .int .i64 frm, .int .i64 nonce, .int .i64 err, .string text] ∧ name.size + text.size + 8 ≤ Rows.uptoBulk d := by
  obtain ⟨cs, rfl, hsz⟩ := okWide_struct Try.underlying57 hv
  obtain ⟨fuel, hf⟩ := h
  obtain ⟨kind, name, ver, frm, nonce, err, text, hcs, hb⟩ := open_msg_cells hf
  refine ⟨kind, name, ver, frm, nonce, err, text, ?_, hb⟩
  simp only [Value.cells] at hcs
  exact congrArg Value.agg (Array.ext' hcs)
end

end Go.Proofs.Ytbhjcfhpabnadaa
