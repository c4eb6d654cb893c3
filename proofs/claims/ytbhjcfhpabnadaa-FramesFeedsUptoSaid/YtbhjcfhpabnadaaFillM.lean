/-
  A message of a row written over; three readers apart from a row that is written over. No program's code in sight.
-/
import Derived.Test.YtbhjcfhpabnadaaThree
namespace Go.Proofs.Ytbhjcfhpabnadaa
open Go.RowKit

section
variable {w : World} {base e n c g j : Nat} {xs : List Value}
theorem Own.at7 (h : Own w base e 7 (some ⟨g, 0, none⟩) n c xs) (hj : j < n) : ∃ u0 u1 u2 u3 u4 u5 u6, w.cell? ⟨g, j * 7, none⟩ = some u0 ∧ w.cell? ⟨g, j * 7 + 1, none⟩ = some u1 ∧ w.cell? ⟨g, j * 7 + 2, none⟩ = some u2 ∧
    w.cell? ⟨g, j * 7 + 3, none⟩ = some u3 ∧ w.cell? ⟨g, j * 7 + 4, none⟩ = some u4 ∧ w.cell? ⟨g, j * 7 + 5, none⟩ = some u5 ∧ w.cell? ⟨g, j * 7 + 6, none⟩ = some u6 := by
  have hl := h.len
  have at_ : ∀ i, i < 7 → ∃ u, w.cell? ⟨g, j * 7 + i, none⟩ = some u := fun i hi => by
    obtain ⟨a, ha, _, hc⟩ := h.rd (j * 7 + i) _ (List.getElem?_eq_getElem (by omega))
    obtain rfl := Option.some.inj ha
    rw [Addr.add_lit, Nat.zero_add] at hc
    exact ⟨_, hc⟩
  obtain ⟨u0, h0⟩ := at_ 0 (by omega)
  obtain ⟨u1, h1⟩ := at_ 1 (by omega)
  obtain ⟨u2, h2⟩ := at_ 2 (by omega)
  obtain ⟨u3, h3⟩ := at_ 3 (by omega)
  obtain ⟨u4, h4⟩ := at_ 4 (by omega)
  obtain ⟨u5, h5⟩ := at_ 5 (by omega)
  obtain ⟨u6, h6⟩ := at_ 6 (by omega)
  exact ⟨u0, u1, u2, u3, u4, u5, u6, h0, h1, h2, h3, h4, h5, h6⟩
theorem Own.free7 (h : Own w base e 7 (some ⟨g, 0, none⟩) n c xs) (i : Nat) : w.frozen? ⟨g, i, none⟩ = false := World.ownsRow.frozenAt h i
theorem Own.set1 (h : Own w base e 7 (some ⟨g, 0, none⟩) n c xs) (i : Nat) (u : Value) : Own (w.setCell ⟨g, i, none⟩ u) base e 7 (some ⟨g, 0, none⟩) n c (xs.set i u) := (World.ownsRow.stored h i u).1
theorem Own.set7 (h : Own w base e 7 (some ⟨g, 0, none⟩) n c xs) (i : Nat) (v0 v1 v2 v3 v4 v5 v6 : Value) :
    Own (((((((w.setCell ⟨g, i, none⟩ v0).setCell ⟨g, i + 1, none⟩ v1).setCell ⟨g, i + 2, none⟩ v2).setCell ⟨g, i + 3, none⟩ v3).setCell ⟨g, i + 4, none⟩ v4).setCell ⟨g, i + 5, none⟩ v5).setCell ⟨g, i + 6, none⟩ v6) base e 7 (some ⟨g, 0, none⟩) n c
      (((((((xs.set i v0).set (i + 1) v1).set (i + 2) v2).set (i + 3) v3).set (i + 4) v4).set (i + 5) v5).set (i + 6) v6) :=
  ((((((h.set1 _ _).set1 _ _).set1 _ _).set1 _ _).set1 _ _).set1 _ _).set1 _ _
theorem Tur.set7 (w : World) (g i : Nat) (v0 v1 v2 v3 v4 v5 v6 : Value) :
    Tur (fun q => q = g) w (((((((w.setCell ⟨g, i, none⟩ v0).setCell ⟨g, i + 1, none⟩ v1).setCell ⟨g, i + 2, none⟩ v2).setCell ⟨g, i + 3, none⟩ v3).setCell ⟨g, i + 4, none⟩ v4).setCell ⟨g, i + 5, none⟩ v5).setCell ⟨g, i + 6, none⟩ v6) := by
  have one := fun (W : World) (i : Nat) (v : Value) => Tur.of_set W ⟨g, i, none⟩ v
  have k := fun (q : Nat) (_ : q < w.heap.size) (h : q = g) => h
  exact ((((((one w i v0).trans (one _ _ v1) k).trans (one _ _ v2) k).trans (one _ _ v3) k).trans (one _ _ v4) k).trans (one _ _ v5) k).trans (one _ _ v6) k
end

section
variable {w0 w w' : World} {gr gd gs : Nat} {Ar Ad As : Option Addr} {r d s : RSt}
/-- A block between is written over. -/
theorem Three.given (H : Three w0 w gr gd gs Ar Ad As r d s) {g : Nat} (hg : w0.heap.size ≤ g) (h1 : gr ≠ g ∧ gd ≠ g ∧ gs ≠ g) (h4 : ∀ q, blk Ar = some q → q ≠ g) (h5 : ∀ q, blk Ad = some q → q ≠ g) (h6 : ∀ q, blk As = some q → q ≠ g) (ht : Tur (fun q => q = g) w w') :
    Three w0 w' gr gd gs Ar Ad As r d s := by
  refine H.tur ht fun q hq => ?_
  subst hq
  refine ⟨hg, fun hin => ?_⟩
  rcases hin with e | e | e | e | e | e
  · exact h1.1 e.symm
  · exact h1.2.1 e.symm
  · exact h1.2.2 e.symm
  · exact h4 _ e rfl
  · exact h5 _ e rfl
  · exact h6 _ e rfl
/-- A row of another type is written over. -/
theorem Three.row7 (H : Three w0 w gr gd gs Ar Ad As r d s) {base n c g : Nat} {xs : List Value} (ho : Own w base 60 7 (some ⟨g, 0, none⟩) n c xs) (hg : w0.heap.size ≤ g) (h1 : gr ≠ g ∧ gd ≠ g ∧ gs ≠ g) (ht : Tur (fun q => q = g) w w') : Three w0 w' gr gd gs Ar Ad As r d s := by
  have ne : ∀ {T g' : Nat} {A : Option Addr} {q : RSt}, Rdr w T w0.heap.size g' A q → ∀ i, blk A = some i → i ≠ g := fun {T g' A q} hq i hi e => by
    obtain ⟨⟨c', _, h2⟩, _⟩ := hq
    rcases ho.ne_ h2 (by decide) with e2 | e2
    · cases e2
    · exact e2 (by rw [hi, e]; rfl)
  exact H.given hg h1 (ne H.hr) (ne H.hd) (ne H.hs) ht
end

end Go.Proofs.Ytbhjcfhpabnadaa
