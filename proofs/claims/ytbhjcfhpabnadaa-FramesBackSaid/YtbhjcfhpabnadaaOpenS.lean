/-
  Arguments opened: what a word bound on the weights of all that is read says of a slice's length, and of a message's strings.
-/
import Derived.Test.YtbhjcfhpabnadaaOpenT
import Derived.SizedLaws
namespace Go.Proofs.Ytbhjcfhpabnadaa
open Go.ChangeShapes Go.WideShapes Go.ChangeAt Go.RowKit Go.Deep Go.WideElems Go.Maps

theorem reach_each {H : Type} {P : Program} {ts : List TypeId} {ds : List (DataW H)} (h : (DataW.weightsEach P ts ds).all (· ≤ reachBytes) = true) {j : Nat} {t : TypeId} {d : DataW H} (ht : ts[j]? = some t) (hd : ds[j]? = some d) : ∀ x ∈ d.weights P t, x ≤ 140737488351232 := fun x hx => by
  have := List.all_eq_true.1 h x (DataW.weights_mem_each ht hd x hx)
  exact of_decide_eq_true this

section
variable {H : Type} {enc : TypeId × Value → H} {w : World} {base : Nat} {spare : Nat → Bool} {held : Bool}

set_option maxRecDepth 100000 in
theorem slice_reach {t e : TypeId} {n c R : Nat} {A : Option Addr} {d : DataW H} {p : List MemPlace} (hu : Try.prog.underlying t = some (.slice e)) (h : DataW.Trod enc Try.prog w 0 spare held t (.slice A n c) d p) (hs : ∀ x ∈ d.weights Try.prog t, x ≤ R) : n * Try.prog.bytesOf e ≤ R := by
  obtain ⟨fuel, hf⟩ := h
  rcases open_slice hu hf with ⟨hcs, _⟩ | ⟨a, len, cap, m, k, D, Pl, hcs, _, hl, _, hm, hx, _⟩
  · have : Value.slice A n c = .slice none 0 0 := by simpa [Value.cells] using hcs
    injection this with h1 h2 h3
    subst h2
    generalize Try.prog.bytesOf e = z
    simp
  · have : Value.slice A n c = .slice (some a) len cap := by simpa [Value.cells] using hcs
    injection this with h1 h2 h3
    subst h2
    injection hx with hx _
    subst hx
    have h4 := hs ((n + (m - n)) * Try.prog.bytesOf e) (by simp [DataW.weights, hu])
    exact Nat.le_trans (Nat.mul_le_mul_right _ (by omega)) h4

/-- A []byte argument is at most so long. -/
theorem bytes_reach {n c R : Nat} {A : Option Addr} {d : DataW H} {p : List MemPlace} (h : DataW.Trod enc Try.prog w 0 spare held 22 (.slice A n c) d p) (hs : ∀ x ∈ d.weights Try.prog 22, x ≤ R) : n ≤ R := by
  have := slice_reach Try.underlying22 h hs
  rw [show Try.prog.bytesOf 5 = 1 by kernel_rfl, Nat.mul_one] at this
  exact this
end

section
variable {H : Type} {enc : TypeId × Value → H} {P : Program} {w : World} {base : Nat} {spare : Nat → Bool} {held : Bool}
set_option maxRecDepth 100000 in
theorem msg_cells_reach {cs : List Value} {fuel : Nat} {x : DataW H × List MemPlace} {R : Nat} (h : DataW.trod enc Try.prog w base spare held fuel 57 cs = some x) (hs : ∀ z ∈ x.1.weights Try.prog 57, z ≤ R) :
    ∃ (kind : Int) (name : ByteArray) (ver frm nonce err : Int) (text : ByteArray), cs = [.int .i64 kind, .string name, .int .i64 ver, .int .i64 frm, .int .i64 nonce, .int .i64 err, .string text] ∧ name.size ≤ R ∧ text.size ≤ R := by
  obtain ⟨y0, y1, y2, y3, y4, y5, y6, n, hx, hl, h0, h1, h2, h3, h4, h5, h6⟩ := trod_struct7 Try.underlying57 h
  rw [hx] at hs
  have C57 : Try.prog.cellsOf 57 = 7 := by kernel_rfl
  have C3 : Try.prog.cellsOf 3 = 1 := by kernel_rfl
  have C9 : Try.prog.cellsOf 9 = 1 := by kernel_rfl
  rw [C57] at hl
  obtain ⟨c0, c1, c2, c3, c4, c5, c6, rfl⟩ := list7 hl
  simp only [C3, C9, List.drop_zero, List.drop_succ_cons, List.take_succ_cons, List.take_zero] at h0 h1 h2 h3 h4 h5 h6
  obtain ⟨z0, q0, rfl, _⟩ := DataW.trod_int Try.underlying3 h0
  obtain ⟨s1, q1, rfl, _⟩ := DataW.trod_string Try.underlying9 h1
  obtain ⟨z2, q2, rfl, _⟩ := DataW.trod_int Try.underlying3 h2
  obtain ⟨z3, q3, rfl, _⟩ := DataW.trod_int Try.underlying3 h3
  obtain ⟨z4, q4, rfl, _⟩ := DataW.trod_int Try.underlying3 h4
  obtain ⟨z5, q5, rfl, _⟩ := DataW.trod_int Try.underlying3 h5
  obtain ⟨s6, q6, rfl, _⟩ := DataW.trod_string Try.underlying9 h6
  simp only [List.cons.injEq, and_true] at q0 q1 q2 q3 q4 q5 q6
  subst q0 q1 q2 q3 q4 q5 q6
  have e1 : s1.data.toList.length = s1.size := by show s1.data.toList.length = s1.data.size; simp
  have e6 : s6.data.toList.length = s6.size := by show s6.data.toList.length = s6.data.size; simp
  refine ⟨z0, s1, z2, z3, z4, z5, s6, rfl, ?_, ?_⟩
  · rw [← e1]
    exact hs _ (by simp [DataW.weights, DataW.weightsEach, Try.underlying57])
  · rw [← e6]
    exact hs _ (by simp [DataW.weights, DataW.weightsEach, Try.underlying57])

set_option maxRecDepth 100000 in
theorem msg_reach {r : Reach} {b0 R : Nat} {v : Value} {d : DataW H} {p : List MemPlace} (hv : Value.okWide Try.prog w r b0 57 v) (h : DataW.Trod enc Try.prog w base spare held 57 v d p) (hs : ∀ z ∈ d.weights Try.prog 57, z ≤ R) :
    ∃ (kind : Int) (name : ByteArray) (ver frm nonce err : Int) (text : ByteArray), v = .agg #[.int .i64 kind, .string name, .int .i64 ver, .int .i64 frm, .int .i64 nonce, .int .i64 err, .string text] ∧ name.size ≤ R ∧ text.size ≤ R := by
  obtain ⟨cs, rfl, hsz⟩ := okWide_struct Try.underlying57 hv
  obtain ⟨fuel, hf⟩ := h
  obtain ⟨kind, name, ver, frm, nonce, err, text, hcs, h1, h2⟩ := msg_cells_reach hf hs
  refine ⟨kind, name, ver, frm, nonce, err, text, ?_, h1, h2⟩
  simp only [Value.cells] at hcs
  exact congrArg Value.agg (Array.ext' hcs)
end

end Go.Proofs.Ytbhjcfhpabnadaa
