/-
  Worlds that differ in a few blocks; a reader in memory; rows of messages. No program's code in sight.
-/
import Derived.Test.YtbhjcfhpabnadaaFeedS
namespace Go.Proofs.Ytbhjcfhpabnadaa
open Go.RowKit

/-- w' is w but for the blocks of S, and with new ones. -/
structure Tur (S : Nat → Prop) (w w' : World) : Prop where
  os : w'.os = w.os
  tape : w'.tape = w.tape
  output : w'.output = w.output
  size : w.heap.size ≤ w'.heap.size
  block : ∀ k, k < w.heap.size → ¬ S k → w'.heap[k]? = w.heap[k]?

section
variable {S T : Nat → Prop} {w w' a b c : World}
theorem Tur.refl (S : Nat → Prop) (w : World) : Tur S w w := ⟨rfl, rfl, rfl, Nat.le_refl _, fun _ _ _ => rfl⟩
theorem Tur.mono (h : Tur S a b) (hs : ∀ k, k < a.heap.size → S k → T k) : Tur T a b := ⟨h.os, h.tape, h.output, h.size, fun k hk hn => h.block k hk fun hS => hn (hs k hk hS)⟩
theorem Tur.trans (h : Tur S a b) (k : Tur T b c) (hs : ∀ k, k < a.heap.size → T k → S k) : Tur S a c :=
  ⟨k.os.trans h.os, k.tape.trans h.tape, k.output.trans h.output, Nat.le_trans h.size k.size, fun i hi hn => (k.block i (Nat.lt_of_lt_of_le hi h.size) fun hT => hn (hs i hi hT)).trans (h.block i hi hn)⟩
theorem Tur.of_below (S : Nat → Prop) (h : Below w.heap.size w w') : Tur S w w' := ⟨h.os, h.tape, h.output, h.size, fun k hk _ => h.block k hk⟩
theorem Tur.step (h : Tur S a b) (k : Below b.heap.size b c) : Tur S a c := h.trans (Tur.of_below (fun _ => False) k) fun _ _ h => h.elim
theorem Tur.of_grown {row : Option Nat} (h : w.grownBy w' row) : Tur (fun k => row = some k) w w' := ⟨h.os, h.tape, h.output, h.size, fun k hk hn => h.block k hk fun e => hn e.symm⟩
theorem Tur.of_set (w : World) (p : Addr) (u : Value) : Tur (fun k => k = p.block) w (w.setCell p u) := ⟨rfl, rfl, rfl, by simp [World.setCell], fun k _ hn => Below.heap_setCell w p u k hn⟩
theorem Tur.below {B : Nat} (h : Tur S a b) (hB : B ≤ a.heap.size) (hs : ∀ k, k < B → ¬ S k) : Below B a b := ⟨h.os, h.tape, h.output, h.size, fun k hk => h.block k (Nat.lt_of_lt_of_le hk hB) (hs k hk)⟩

theorem Own.tur {base e size n c : Nat} {A : Option Addr} {xs : List Value} (h : Own w base e size A n c xs) (ht : Tur S w w') (hA : ∀ k, blk A = some k → ¬ S k) : Own w' base e size A n c xs := by
  refine ⟨h.1, ?_⟩
  rcases h.2 with hn | ⟨g, cap, cur, hv, hb, hg, rest⟩
  · exact .inl hn
  · have hA1 : A = some ⟨g, 0, none⟩ := by injection hv
    refine .inr ⟨g, cap, cur, hv, hb, ?_, rest⟩
    rw [ht.block g (Array.getElem?_eq_some_iff.1 hg).1 (hA g (by rw [hA1]; rfl))]
    exact hg
/-- A row's block is not a block of another type. -/
theorem Own.ne_blk {base e size n c g t : Nat} {A : Option Addr} {xs : List Value} {cs : Array Value} (h : Own w base e size A n c xs) (hg : w.heap[g]? = some (.cells cs t (0, 0))) (hne : e ≠ t) : blk A ≠ some g := by
  intro hb
  rcases h.2 with ⟨hv, _⟩ | ⟨g', cap, cur, hv, _, hg', _⟩
  · have hA1 : A = none := by injection hv
    rw [hA1] at hb
    cases hb
  · have hA1 : A = some ⟨g', 0, none⟩ := by injection hv
    rw [hA1] at hb
    simp only [blk, Option.map_some, Option.some.injEq] at hb
    subst hb
    rw [hg] at hg'
    injection hg' with hg'
    injection hg' with _ ht _
    exact hne ht.symm
theorem lt_of_heap {g : Nat} {o : Obj} (h : w.heap[g]? = some o) : g < w.heap.size := (Array.getElem?_eq_some_iff.1 h).1
theorem heap_set {g i t : Nat} {cs : Array Value} (h : w.heap[g]? = some (.cells cs t (0, 0))) (u : Value) : (w.setCell ⟨g, i, none⟩ u).heap[g]? = some (.cells (cs.setIfInBounds i u) t (0, 0)) := by
  simp [World.setCell, Array.getElem?_modify, h]
end

/-- A reader lies in block g: what waits (a row of the call's own), and whether it is dead. -/
def Rdr (w : World) (T base g : Nat) (A : Option Addr) (s : RSt) : Prop :=
  (∃ c, w.heap[g]? = some (.cells #[.slice A s.waits.length c, .bool s.dead] T (0, 0)) ∧ Own w base 5 1 A s.waits.length c (bv s.waits)) ∧ (s.dead = true → A = none)

section
variable {S : Nat → Prop} {w w' : World} {T base g : Nat} {A : Option Addr} {s : RSt}
theorem Rdr.lt (h : Rdr w T base g A s) : g < w.heap.size := by obtain ⟨⟨c, h1, _⟩, _⟩ := h; exact lt_of_heap h1
theorem Rdr.tur (h : Rdr w T base g A s) (ht : Tur S w w') (hg : ¬ S g) (hA : ∀ k, blk A = some k → ¬ S k) : Rdr w' T base g A s := by
  obtain ⟨⟨c, h1, h2⟩, h3⟩ := h
  exact ⟨⟨c, (ht.block g (lt_of_heap h1) hg).trans h1, h2.tur ht hA⟩, h3⟩
theorem Rdr.below (h : Rdr w T base g A s) (hb : Below w.heap.size w w') : Rdr w' T base g A s := h.tur (Tur.of_below (fun _ => False) hb) (fun h => h) fun _ _ h => h
theorem Rdr.base_le {base' : Nat} (h : Rdr w T base g A s) (hb : base' ≤ base) : Rdr w T base' g A s := by
  obtain ⟨⟨c, h1, h2⟩, h3⟩ := h
  exact ⟨⟨c, h1, h2.base_le hb⟩, h3⟩
theorem Rdr.blk_ge (h : Rdr w T base g A s) {k : Nat} (hk : blk A = some k) : base ≤ k ∧ k < w.heap.size := by
  obtain ⟨⟨c, h1, h2⟩, h3⟩ := h
  exact h2.blk_ge hk
/-- The reader's own block is not a row of another type. -/
theorem Rdr.ne_row {base' e size n c : Nat} {O : Option Addr} {xs : List Value} (h : Rdr w T base g A s) (ho : Own w base' e size O n c xs) (hne : e ≠ T) : blk O ≠ some g := by
  obtain ⟨⟨c, h1, h2⟩, h3⟩ := h
  exact ho.ne_blk h1 hne
end

/-- The cells of a message; of a row of them. -/
def msgC (m : Msg) : List Value := [.int .i64 m.kind, .string m.name, .int .i64 m.version, .int .i64 m.frm, .int .i64 m.nonce, .int .i64 m.err, .string m.text]
def mv (l : List Msg) : List Value := l.flatMap msgC
theorem mv_nil : mv [] = [] := rfl
theorem mv_snoc (l : List Msg) (m : Msg) : mv (l ++ [m]) = mv l ++ msgC m := by simp [mv]
theorem mv_app (l r : List Msg) : mv (l ++ r) = mv l ++ mv r := by simp [mv]
theorem mv_len : ∀ (l : List Msg), (mv l).length = l.length * 7
  | [] => rfl
  | m :: l => by
    have := mv_len l
    simp only [mv, List.flatMap_cons, List.length_append, List.length_cons] at this ⊢
    rw [this]
    simp [msgC]
    omega
theorem mv_one (l : List Msg) : ∀ u ∈ mv l, u.oneCell' = true := by
  intro u hu
  simp only [mv, List.mem_flatMap] at hu
  obtain ⟨m, _, hu⟩ := hu
  simp only [msgC, List.mem_cons, List.not_mem_nil, or_false] at hu
  rcases hu with rfl | rfl | rfl | rfl | rfl | rfl | rfl <;> rfl
theorem msgC_one (m : Msg) : ∀ u ∈ (msgC m).toArray.toList, u.oneCell' = true := by
  intro u hu
  simp only [msgC, List.mem_cons, List.not_mem_nil, or_false] at hu
  rcases hu with rfl | rfl | rfl | rfl | rfl | rfl | rfl <;> rfl
/-- The cells of the k-th message. -/
theorem mv_get : ∀ (l : List Msg) (k j : Nat) (m : Msg), l[k]? = some m → j < 7 → (mv l)[k * 7 + j]? = (msgC m)[j]?
  | [], k, j, m, h, _ => by simp at h
  | x :: l, 0, j, m, h, hj => by
    simp only [List.getElem?_cons_zero, Option.some.injEq] at h
    subst h
    simp only [mv, List.flatMap_cons, Nat.zero_mul, Nat.zero_add]
    rw [List.getElem?_append_left (by simp [msgC]; omega)]
  | x :: l, k + 1, j, m, h, hj => by
    have ih := mv_get l k j m (by simpa using h) hj
    simp only [mv, List.flatMap_cons] at ih ⊢
    rw [List.getElem?_append_right (by simp [msgC]; omega), ← ih]
    congr 1
    simp [msgC]
    omega

theorem Try.el75 : Elem Try.prog 75 60 7 72 := Elem.of (z := .agg #[.int .i64 0, .string ⟨#[]⟩, .int .i64 0, .int .i64 0, .int .i64 0, .int .i64 0, .string ⟨#[]⟩]) Try.underlying75 (by kernel_rfl) rfl (by decide)
theorem Try.el78 : Elem Try.prog 78 57 7 72 := Elem.of (z := .agg #[.int .i64 0, .string ⟨#[]⟩, .int .i64 0, .int .i64 0, .int .i64 0, .int .i64 0, .string ⟨#[]⟩]) Try.underlying78 (by kernel_rfl) rfl (by decide)

/-- What a slice of some bytes reads as, in whatever world those bytes lie. -/
def Part (base : Nat) (A2 : Option Addr) (N c2 : Nat) (all : List UInt8) (S : Option Addr) (c : Nat) (rest : List UInt8) : Prop :=
  (∀ (W : World), Own W base 5 1 A2 N c2 (bv all) → Rd W W.heap.size S (bv rest)) ∧ (S = none → c = 0) ∧ rest.length ≤ c
theorem Part.whole {base N c2 : Nat} {A2 : Option Addr} {all : List UInt8} {w : World} (h : Own w base 5 1 A2 N c2 (bv all)) : Part base A2 N c2 all A2 c2 all :=
  ⟨fun W hW => hW.rd, own_capN h, by have := own_cap h; have := h.len; rw [bv_length] at this; omega⟩
theorem Part.cut {base N c2 c k : Nat} {A2 S : Option Addr} {all rest : List UInt8} (h : Part base A2 N c2 all S c rest) (hk : k ≤ rest.length) : Part base A2 N c2 all (if c = k then S else S.map (·.add k)) (c - k) (rest.drop k) := by
  obtain ⟨h1, h2, h3⟩ := h
  refine ⟨fun W hW => ?_, fun hn => ?_, by rw [List.length_drop]; omega⟩
  · have := (h1 W hW).cut k c (by rw [bv_length]; exact h3)
    simpa [bv, List.map_drop] using this
  · split at hn
    · rw [h2 hn]; omega
    · cases S with
      | none => rw [h2 rfl]; omega
      | some a => cases hn

end Go.Proofs.Ytbhjcfhpabnadaa
