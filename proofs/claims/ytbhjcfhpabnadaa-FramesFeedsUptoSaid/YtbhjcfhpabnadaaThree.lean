/-
  Three readers in memory, each fed apart. No program's code in sight.
-/
import Derived.Test.YtbhjcfhpabnadaaRFeedW
namespace Go.Proofs.Ytbhjcfhpabnadaa
open Go.RowKit

/-- Another reader is fed: this one lies as it was. -/
theorem Rdr.other {S : Nat → Prop} {w w' : World} {T T' base base' g g' : Nat} {A A' : Option Addr} {s s' : RSt} (h : Rdr w T base g A s) (h' : Rdr w T' base' g' A' s') (hT : 5 ≠ T ∧ 5 ≠ T') (hg : g ≠ g') (hd : ∀ k, blk A = some k → blk A' ≠ some k)
    (ht : Tur S w w') (hS : ∀ k, S k → k = g' ∨ blk A' = some k) : Rdr w' T base g A s := by
  refine h.tur ht (fun hs => ?_) fun k hk hs => ?_
  · rcases hS _ hs with e | e
    · exact hg e
    · obtain ⟨⟨c, _, ho⟩, _⟩ := h'
      exact h.ne_row ho hT.1 e
  · rcases hS _ hs with e | e
    · obtain ⟨⟨c, _, ho⟩, _⟩ := h
      exact h'.ne_row ho hT.2 (hk.trans (congrArg some e))
    · exact hd k hk e

/-- Readers r, d (the reference's), s. -/
structure Three (w0 w : World) (gr gd gs : Nat) (Ar Ad As : Option Addr) (r d s : RSt) : Prop where
  hr : Rdr w 115 w0.heap.size gr Ar r
  hd : Rdr w 73 w0.heap.size gd Ad d
  hs : Rdr w 115 w0.heap.size gs As s
  ne : gr ≠ gd ∧ gr ≠ gs ∧ gd ≠ gs
  ge : w0.heap.size ≤ gr ∧ w0.heap.size ≤ gd ∧ w0.heap.size ≤ gs
  rd : ∀ k, blk Ar = some k → blk Ad ≠ some k
  rs : ∀ k, blk Ar = some k → blk As ≠ some k
  ds : ∀ k, blk Ad = some k → blk As ≠ some k
  ok : r.ok ∧ d.ok ∧ s.ok
  below : Below w0.heap.size w0 w

section
variable {w0 w w' : World} {gr gd gs : Nat} {Ar Ad As A' : Option Addr} {r d s r' : RSt} {S : Nat → Prop}

/-- What the three stand on. -/
def Three.in_ (gr gd gs : Nat) (Ar Ad As : Option Addr) (k : Nat) : Prop := k = gr ∨ k = gd ∨ k = gs ∨ blk Ar = some k ∨ blk Ad = some k ∨ blk As = some k

theorem Three.tur (h : Three w0 w gr gd gs Ar Ad As r d s) (ht : Tur S w w') (hS : ∀ k, S k → w0.heap.size ≤ k ∧ ¬ Three.in_ gr gd gs Ar Ad As k) : Three w0 w' gr gd gs Ar Ad As r d s := by
  have n1 : ∀ k, Three.in_ gr gd gs Ar Ad As k → ¬ S k := fun k hk hs => (hS k hs).2 hk
  exact ⟨h.hr.tur ht (n1 _ (.inl rfl)) fun k hk => n1 k (.inr (.inr (.inr (.inl hk)))), h.hd.tur ht (n1 _ (.inr (.inl rfl))) fun k hk => n1 k (.inr (.inr (.inr (.inr (.inl hk))))), h.hs.tur ht (n1 _ (.inr (.inr (.inl rfl)))) fun k hk => n1 k (.inr (.inr (.inr (.inr (.inr hk))))),
    h.ne, h.ge, h.rd, h.rs, h.ds, h.ok, h.below.trans (ht.below h.below.size fun k hk hs => by have := (hS k hs).1; omega)⟩
theorem Three.step (h : Three w0 w gr gd gs Ar Ad As r d s) (hb : Below w.heap.size w w') : Three w0 w' gr gd gs Ar Ad As r d s := h.tur (Tur.of_below (fun _ => False) hb) fun _ h => h.elim
theorem Three.lt (h : Three w0 w gr gd gs Ar Ad As r d s) {k : Nat} (hk : Three.in_ gr gd gs Ar Ad As k) : k < w.heap.size := by
  rcases hk with rfl | rfl | rfl | e | e | e
  · exact h.hr.lt
  · exact h.hd.lt
  · exact h.hs.lt
  · exact (h.hr.blk_ge e).2
  · exact (h.hd.blk_ge e).2
  · exact (h.hs.blk_ge e).2
theorem Three.in_ge (h : Three w0 w gr gd gs Ar Ad As r d s) {k : Nat} (hk : Three.in_ gr gd gs Ar Ad As k) : w0.heap.size ≤ k := by
  rcases hk with rfl | rfl | rfl | e | e | e
  · exact h.ge.1
  · exact h.ge.2.1
  · exact h.ge.2.2
  · exact (h.hr.blk_ge e).1
  · exact (h.hd.blk_ge e).1
  · exact (h.hs.blk_ge e).1
theorem Three.feedR (h : Three w0 w gr gd gs Ar Ad As r d s) (hn : Rdr w' 115 w.heap.size gr A' r') (ht : Tur (fun k => k = gr ∨ blk Ar = some k) w w') (ho : r'.ok) : Three w0 w' gr gd gs A' Ad As r' d s := by
  have s0 := h.below.size
  refine ⟨hn.base_le s0, h.hd.other h.hr (by decide) h.ne.1.symm (fun k hk e => h.rd k e hk) ht fun k hk => hk, h.hs.other h.hr (by decide) h.ne.2.1.symm (fun k hk e => h.rs k e hk) ht fun k hk => hk, h.ne, h.ge, fun k hk e => ?_, fun k hk e => ?_, h.ds, ⟨ho, h.ok.2⟩, h.below.trans (ht.below s0 fun k hk hs => ?_)⟩
  · have := (hn.blk_ge hk).1; have := (h.hd.blk_ge e).2; omega
  · have := (hn.blk_ge hk).1; have := (h.hs.blk_ge e).2; omega
  · have := h.in_ge (k := k) (hs.elim .inl fun e => .inr (.inr (.inr (.inl e)))); omega
theorem Three.feedD (h : Three w0 w gr gd gs Ar Ad As r d s) (hn : Rdr w' 73 w.heap.size gd A' r') (ht : Tur (fun k => k = gd ∨ blk Ad = some k) w w') (ho : r'.ok) : Three w0 w' gr gd gs Ar A' As r r' s := by
  have s0 := h.below.size
  refine ⟨h.hr.other h.hd (by decide) h.ne.1 (fun k hk e => h.rd k hk e) ht fun k hk => hk, hn.base_le s0, h.hs.other h.hd (by decide) h.ne.2.2.symm (fun k hk e => h.ds k e hk) ht fun k hk => hk, h.ne, h.ge, fun k hk e => ?_, h.rs, fun k hk e => ?_, ⟨h.ok.1, ho, h.ok.2.2⟩, h.below.trans (ht.below s0 fun k hk hs => ?_)⟩
  · have := (hn.blk_ge e).1; have := (h.hr.blk_ge hk).2; omega
  · have := (hn.blk_ge hk).1; have := (h.hs.blk_ge e).2; omega
  · have := h.in_ge (k := k) (hs.elim (fun e => .inr (.inl e)) fun e => .inr (.inr (.inr (.inr (.inl e))))); omega
theorem Three.feedS (h : Three w0 w gr gd gs Ar Ad As r d s) (hn : Rdr w' 115 w.heap.size gs A' r') (ht : Tur (fun k => k = gs ∨ blk As = some k) w w') (ho : r'.ok) : Three w0 w' gr gd gs Ar Ad A' r d r' := by
  have s0 := h.below.size
  refine ⟨h.hr.other h.hs (by decide) h.ne.2.1 (fun k hk e => h.rs k hk e) ht fun k hk => hk, h.hd.other h.hs (by decide) h.ne.2.2 (fun k hk e => h.ds k hk e) ht fun k hk => hk, hn.base_le s0, h.ne, h.ge, h.rd, fun k hk e => ?_, fun k hk e => ?_, ⟨h.ok.1, h.ok.2.1, ho⟩, h.below.trans (ht.below s0 fun k hk hs => ?_)⟩
  · have := (hn.blk_ge e).1; have := (h.hr.blk_ge hk).2; omega
  · have := (hn.blk_ge e).1; have := (h.hd.blk_ge hk).2; omega
  · have := h.in_ge (k := k) (hs.elim (fun e => .inr (.inr (.inl e))) fun e => .inr (.inr (.inr (.inr (.inr e))))); omega
/-- A row that came when the three lay there, and is no part of them, stays when one of them is fed. -/
theorem Three.row (_ : Three w0 w gr gd gs Ar Ad As r d s) {T e size n c base : Nat} {O : Option Addr} {xs : List Value} {g : Nat} {A : Option Addr} {q : RSt} (hq : Rdr w T w0.heap.size g A q) (ho : Own w base e size O n c xs) (he : e ≠ T) (hne : ∀ k, blk O = some k → blk A ≠ some k)
    (ht : Tur (fun k => k = g ∨ blk A = some k) w w') : Own w' base e size O n c xs :=
  ho.tur ht fun k hk hs => hs.elim (fun e => hq.ne_row ho he (hk.trans (congrArg some e))) fun e => hne k hk e
end

end Go.Proofs.Ytbhjcfhpabnadaa
