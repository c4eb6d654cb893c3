/-
  Steps as plain data, their bytes, and how they lie in memory. No program in sight.
-/
import Derived.Test.YtpafimjdlbnckaaRow
namespace Go.Proofs.Ytpafimjdlbnckaa
open Go.RowKit

structure St where
  op : Int
  a : Int
  b : Int
  data : List UInt8

def carB (op : Int) : Bool := decide (op = 3 ∨ op = 5 ∨ op = 10 ∨ op = 11 ∨ op = 13)

/-- A step that may be. -/
def okS (s : St) : Prop := 0 ≤ s.op ∧ s.op ≤ 15 ∧ 0 ≤ s.a ∧ s.a ≤ 255 ∧ 0 ≤ s.b ∧ s.b ≤ 255 ∧ s.data.length ≤ 65535 ∧ (0 < s.data.length → carB s.op = true)

def u8 (z : Int) : UInt8 := UInt8.ofNat z.toNat
theorem u8_val {z : Int} (h0 : 0 ≤ z) (h1 : z ≤ 255) : ((u8 z).toNat : Int) = z := by
  unfold u8
  rw [UInt8.toNat_ofNat_of_lt' (by simp [UInt8.size]; omega)]
  omega

/-- The form of a step. -/
def encS (s : St) : List UInt8 :=
  [u8 s.op, u8 s.a, u8 s.b] ++ if carB s.op = true then [u8 (s.data.length % 256 : Nat), u8 (s.data.length / 256 : Nat)] ++ s.data else []
def encL (l : List St) : List UInt8 := l.flatMap encS

theorem encS_car {s : St} (h : carB s.op = true) : encS s = [u8 s.op, u8 s.a, u8 s.b] ++ [u8 (s.data.length % 256 : Nat), u8 (s.data.length / 256 : Nat)] ++ s.data := by
  unfold encS
  rw [if_pos h, List.append_assoc]
theorem encS_not {s : St} (h : carB s.op = false) : encS s = [u8 s.op, u8 s.a, u8 s.b] := by
  unfold encS
  rw [if_neg (by simp [h]), List.append_nil]
theorem encS_len_car {s : St} (h : carB s.op = true) : (encS s).length = 5 + s.data.length := by
  rw [encS_car h]
  simp
  omega
theorem encS_len_not {s : St} (h : carB s.op = false) : (encS s).length = 3 := by
  rw [encS_not h]
  rfl

theorem encL_take_succ {l : List St} {k : Nat} (h : k < l.length) : encL (l.take (k + 1)) = encL (l.take k) ++ encS l[k] := by
  unfold encL
  rw [List.take_succ_eq_append_getElem h, List.flatMap_append, List.flatMap_singleton]
theorem encL_take_le (l : List St) (k : Nat) : (encL (l.take k)).length ≤ (encL l).length := by
  have h : encL l = encL (l.take k) ++ encL (l.drop k) := by
    unfold encL
    rw [← List.flatMap_append, List.take_append_drop]
  rw [h, List.length_append]
  exact Nat.le_add_right _ _

/-- The steps l lie from the address A on, each in four cells (five in the reference: sz), their data below B. -/
def StAt (w : World) (B sz : Nat) (A : Option Addr) (l : List St) : Prop :=
  ∀ k (h : k < l.length), ∃ b o D c, A = some ⟨b, o, none⟩ ∧ b < B ∧ w.cell? ⟨b, o + k * sz, none⟩ = some (.int .i64 l[k].op) ∧ w.cell? ⟨b, o + k * sz + 1, none⟩ = some (.int .i64 l[k].a) ∧
    w.cell? ⟨b, o + k * sz + 2, none⟩ = some (.int .i64 l[k].b) ∧ w.cell? ⟨b, o + k * sz + 3, none⟩ = some (.slice D l[k].data.length c) ∧ Rd w B D (bv l[k].data)

theorem StAt.same_ {w w' : World} {B sz : Nat} {A : Option Addr} {l : List St} (h : StAt w B sz A l) (hk : ∀ p : Addr, p.block < B → w'.cell? p = w.cell? p) : StAt w' B sz A l := fun k hlt => by
  obtain ⟨b, o, D, c, hA, hb, h0, h1, h2, h3, hr⟩ := h k hlt
  exact ⟨b, o, D, c, hA, hb, (hk _ hb).trans h0, (hk _ hb).trans h1, (hk _ hb).trans h2, (hk _ hb).trans h3, hr.same_ hk⟩
theorem StAt.below {w w' : World} {B sz : Nat} {A : Option Addr} {l : List St} (h : StAt w B sz A l) (hb : Below B w w') : StAt w' B sz A l := h.same_ fun _ hp => hb.cell hp

/-- The reference's steps: five cells each, the last the place. -/
def StAt5 (w : World) (B : Nat) (A : Option Addr) (l : List St) (f : Nat → Int) : Prop :=
  ∀ k (h : k < l.length), ∃ b o D c, A = some ⟨b, o, none⟩ ∧ b < B ∧ w.cell? ⟨b, o + k * 5, none⟩ = some (.int .i64 l[k].op) ∧ w.cell? ⟨b, o + k * 5 + 1, none⟩ = some (.int .i64 l[k].a) ∧
    w.cell? ⟨b, o + k * 5 + 2, none⟩ = some (.int .i64 l[k].b) ∧ w.cell? ⟨b, o + k * 5 + 3, none⟩ = some (.slice D l[k].data.length c) ∧ w.cell? ⟨b, o + k * 5 + 4, none⟩ = some (.int .i64 (f k)) ∧ Rd w B D (bv l[k].data)

theorem StAt5.same_ {w w' : World} {B : Nat} {A : Option Addr} {l : List St} {f : Nat → Int} (h : StAt5 w B A l f) (hk : ∀ p : Addr, p.block < B → w'.cell? p = w.cell? p) : StAt5 w' B A l f := fun k hlt => by
  obtain ⟨b, o, D, c, hA, hb, h0, h1, h2, h3, h4, hr⟩ := h k hlt
  exact ⟨b, o, D, c, hA, hb, (hk _ hb).trans h0, (hk _ hb).trans h1, (hk _ hb).trans h2, (hk _ hb).trans h3, (hk _ hb).trans h4, hr.same_ hk⟩
theorem StAt5.below {w w' : World} {B : Nat} {A : Option Addr} {l : List St} {f : Nat → Int} (h : StAt5 w B A l f) (hb : Below B w w') : StAt5 w' B A l f := h.same_ fun _ hp => hb.cell hp

/-- A block that has just been laid. -/
theorem new_rd (w : World) (cs : Array Value) (e B : Nat) (h : w.heap.size < B) : Rd (w.alloc (.cells cs e)) B (some ⟨w.heap.size, 0, none⟩) cs.toList := by
  intro j u hu
  refine ⟨_, rfl, h, ?_⟩
  rw [Addr.add_lit, Nat.zero_add, World.cell?_alloc_new]
  simpa using hu

/-- A cell of the call's own, far from the row that grew. -/
theorem grown_cell {w w' : World} {row : Option Nat} (hg : w.grownBy w' row) {p : Addr} {v : Value} (h : w.cell? p = some v) (hne : row ≠ some p.block) : w'.cell? p = some v :=
  hg.cell h (fun e => hne e.symm)

end Go.Proofs.Ytpafimjdlbnckaa
