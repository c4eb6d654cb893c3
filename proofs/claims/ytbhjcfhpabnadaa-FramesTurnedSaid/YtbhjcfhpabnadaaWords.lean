/-
  Plain words for the walks of this seat: slices that are read, cells of a row, lists of bytes. No program in sight.
-/
import Derived.WalkKit
import Derived.WalkSpells
import Derived.WalkLawsBesides
import Derived.Lib.Hide
import Derived.Deep.Draws
import Derived.Deep.QuietTactic
import Derived.BigQuiet
import Derived.Deep.AppendLies
import Derived.Maps.AppendAt
namespace Go.Proofs.Ytbhjcfhpabnadaa
open Go.RowKit

/-- The cells of a list of bytes. -/
def bv (xs : List UInt8) : List Value := xs.map fun b => .int .u8 (b.toNat : Int)

theorem bv_length (xs : List UInt8) : (bv xs).length = xs.length := by simp [bv]
theorem bv_append (xs ys : List UInt8) : bv (xs ++ ys) = bv xs ++ bv ys := by simp [bv]
theorem bv_get (xs : List UInt8) (k : Nat) (h : k < xs.length) : (bv xs)[k]? = some (.int .u8 (xs[k].toNat : Int)) := by
  simp [bv, h]
theorem bv_one (xs : List UInt8) : ∀ u ∈ bv xs, u.oneCell' = true := by
  intro u hu
  simp only [bv, List.mem_map] at hu
  obtain ⟨b, _, rfl⟩ := hu
  rfl

theorem add_block (a : Addr) (n : Nat) : (a.add n).block = a.block := by unfold Addr.add; split <;> rfl
theorem add_add' (a : Addr) (i j : Nat) : (a.add i).add j = a.add (i + j) := by
  unfold Addr.add
  by_cases hi : i = 0 <;> by_cases hj : j = 0 <;> simp [hi, hj, Nat.add_assoc]

/-- From the address A on, all below block B, lie the cells xs in w. -/
def Rd (w : World) (B : Nat) (A : Option Addr) (xs : List Value) : Prop :=
  ∀ j u, xs[j]? = some u → ∃ a, A = some a ∧ a.block < B ∧ w.cell? (a.add j) = some u

section
variable {w w' : World} {B B' : Nat} {A : Option Addr} {xs : List Value}
theorem Rd.nil_ (w : World) (B : Nat) (A : Option Addr) : Rd w B A [] := fun j u h => by simp at h
theorem Rd.same_ (h : Rd w B A xs) (hk : ∀ p : Addr, p.block < B → w'.cell? p = w.cell? p) : Rd w' B A xs := fun j u hu => by
  obtain ⟨a, e, hb, hc⟩ := h j u hu
  exact ⟨a, e, hb, (hk _ (by rw [add_block]; exact hb)).trans hc⟩
theorem Rd.more (h : Rd w B A xs) (hB : B ≤ B') : Rd w B' A xs := fun j u hu => by
  obtain ⟨a, e, hb, hc⟩ := h j u hu
  exact ⟨a, e, by omega, hc⟩
theorem Rd.below (h : Rd w B A xs) (hb : Below B w w') : Rd w' B A xs := h.same_ fun _ hp => hb.cell hp
theorem Rd.drewN (h : Rd w B A xs) (k : Nat) : Rd (w.drewN k) B A xs := h
theorem Rd.alloc (h : Rd w B A xs) (hB : B ≤ w.heap.size) (o : Obj) : Rd (w.alloc o) B A xs := h.same_ fun p hp => World.cell?_alloc_lt w o p (by omega)
theorem Rd.byte {ys : List UInt8} (h : Rd w B A (bv ys)) {k : Nat} (hk : k < ys.length) :
    ∃ a, A = some a ∧ a.block < B ∧ w.cell? (a.add k) = some (.int .u8 (ys[k].toNat : Int)) := h k _ (bv_get ys k hk)
theorem Rd.take (h : Rd w B A xs) (n : Nat) : Rd w B A (xs.take n) := fun j u hu => by
  rw [List.getElem?_take] at hu
  split at hu
  · exact h j u hu
  · cases hu
theorem Rd.cut (h : Rd w B A xs) (k cap : Nat) (hc : xs.length ≤ cap) :
    Rd w B (if cap = k then A else A.map (·.add k)) (xs.drop k) := fun j u hu => by
  have hl := (List.getElem?_eq_some_iff.1 hu).1
  rw [List.length_drop] at hl
  rw [List.getElem?_drop] at hu
  obtain ⟨a, rfl, hb, hcell⟩ := h _ u hu
  rw [if_neg (by omega)]
  exact ⟨a.add k, rfl, by rw [add_block]; exact hb, by rw [add_add']; exact hcell⟩
end

theorem below_drewN {B : Nat} {a w : World} (h : Below B a w) (n : Nat) : Below B a (w.drewN n) := ⟨h.os, h.tape, h.output, h.size, h.block⟩

end Go.Proofs.Ytbhjcfhpabnadaa
