/-
  append onto a row of the call's own, whatever the source: nil, empty or not. No program in sight.
-/
import Derived.Test.YtbhjcfhpabnadaaWords
namespace Go.Proofs.Ytbhjcfhpabnadaa
open Go.RowKit

/-- What the table of types says of the slice type t and its element type e. -/
structure Elem (P : Program) (t e : TypeId) (size bytes : Nat) : Prop where
  und : P.underlying t = some (.slice e)
  inf : ∃ i z, P.info? e = some i ∧ i.zero = some z ∧ i.size = size ∧ i.bytes = bytes ∧ z.cells.size = size
  pos : 0 < size

theorem Elem.of {P : Program} {t e : TypeId} {z : Value} {size bytes : Nat} (hu : P.underlying t = some (.slice e)) (h : (P.info? e).map (fun i => (i.zero, i.size, i.bytes)) = some (some z, size, bytes))
    (hz : z.cells.size = size) (hp : 0 < size) : Elem P t e size bytes :=
  let ⟨i, a, b, c, d⟩ := info_parts h
  ⟨hu, ⟨i, z, a, b, c, d, hz⟩, hp⟩

/-- The slice value .slice A n c owns the cells xs in a row from block base on. -/
def Own (w : World) (base : Nat) (e : TypeId) (size : Nat) (A : Option Addr) (n c : Nat) (xs : List Value) : Prop := w.ownsRow base e size (.slice A n c) n xs

def blk (A : Option Addr) : Option Nat := A.map (·.block)

section
variable {w w' : World} {base e size n c : Nat} {A : Option Addr} {xs : List Value}
theorem Own.nil_ (w : World) (base e size : Nat) : Own w base e size none 0 0 [] := World.ownsRow_nil _ _ _ _
theorem Own.len (h : Own w base e size A n c xs) : xs.length = n * size := h.1
theorem Own.blk_eq (_ : Own w base e size A n c xs) : Value.ownBlock (.slice A n c) = blk A := by cases A <;> rfl
theorem Own.form (h : Own w base e size A n c xs) : (A = none ∧ n = 0 ∧ c = 0) ∨ ∃ g, A = some ⟨g, 0, none⟩ ∧ base ≤ g ∧ g < w.heap.size ∧ n ≤ c := by
  rcases h.2 with ⟨hv, h0⟩ | ⟨g, cap, cur, hv, hb, hg, hc, _⟩
  · injection hv with h1 h2 h3
    exact .inl ⟨h1, h2, h3⟩
  · injection hv with h1 h2 h3
    subst h3
    exact .inr ⟨g, h1, hb, (Array.getElem?_eq_some_iff.1 hg).1, hc⟩
theorem Own.form_pos (h : Own w base e size A n c xs) (hn : 0 < n) : ∃ g, A = some ⟨g, 0, none⟩ ∧ base ≤ g ∧ g < w.heap.size ∧ n ≤ c := by
  rcases h.form with ⟨_, h0, _⟩ | h
  · omega
  · exact h
theorem Own.kept (h : Own w base e size A n c xs) {row : Option Nat} (hg : w.grownBy w' row) (hne : A = none ∨ blk A ≠ row) : Own w' base e size A n c xs :=
  World.ownsRow.kept h hg (by rcases hne with rfl | hne; exact .inl rfl; exact .inr (by rw [h.blk_eq]; exact hne))
theorem Own.of_blocks (h : Own w base e size A n c xs) (hg : ∀ k, k < w.heap.size → base ≤ k → w'.heap[k]? = w.heap[k]?) : Own w' base e size A n c xs := by
  refine ⟨h.1, ?_⟩
  rcases h.2 with hn | ⟨g, cap, cur, hv, hb, hgg, rest⟩
  · exact .inl hn
  · refine .inr ⟨g, cap, cur, hv, hb, ?_, rest⟩
    rw [hg g (Array.getElem?_eq_some_iff.1 hgg).1 hb]
    exact hgg
theorem Own.alloc (h : Own w base e size A n c xs) (o : Obj) : Own (w.alloc o) base e size A n c xs := World.ownsRow.alloc h o
theorem Own.drewN (h : Own w base e size A n c xs) (k : Nat) : Own (w.drewN k) base e size A n c xs := h
theorem Own.below {B : Nat} (h : Own w base e size A n c xs) (hb : Below B w w') (hB : w.heap.size ≤ B) : Own w' base e size A n c xs :=
  h.of_blocks fun k hk _ => hb.block k (by omega)
theorem Own.setCell_low (h : Own w base e size A n c xs) {p : Addr} (hp : p.block < base) (u : Value) : Own (w.setCell p u) base e size A n c xs := ownsRow_setCell_below h hp u
theorem Own.rd (h : Own w base e size A n c xs) : Rd w w.heap.size A xs := fun j u hu => by
  rcases h.form with ⟨rfl, rfl, _⟩ | ⟨g, rfl, hb, hlt, hc⟩
  · have := h.len
    have hl := (List.getElem?_eq_some_iff.1 hu).1
    omega
  · exact ⟨_, rfl, hlt, World.ownsRow.cells h (g := g) rfl j u hu⟩
theorem Own.base_le {base' : Nat} (h : Own w base e size A n c xs) (hb : base' ≤ base) : Own w base' e size A n c xs := by
  refine ⟨h.1, ?_⟩
  rcases h.2 with hn | ⟨g, cap, cur, hv, hg, rest⟩
  · exact .inl hn
  · exact .inr ⟨g, cap, cur, hv, by omega, rest⟩
theorem Own.blk_ge (h : Own w base e size A n c xs) {g : Nat} (hg : blk A = some g) : base ≤ g ∧ g < w.heap.size := by
  rcases h.form with ⟨rfl, _, _⟩ | ⟨g', rfl, hb, hlt, _⟩
  · simp [blk] at hg
  · simp [blk] at hg
    omega
theorem Own.blk_new (h : Own w base e size A n c xs) {g : Nat} (hg : w.heap.size ≤ g) : blk A ≠ some g := fun he => by
  have := (h.blk_ge he).2
  omega
/-- Two rows of different element types lie in different blocks. -/
theorem Own.ne_ {base' e' size' n' c' : Nat} {A' : Option Addr} {xs' : List Value} (h : Own w base e size A n c xs) (h' : Own w base' e' size' A' n' c' xs') (hne : e ≠ e') : A = none ∨ blk A ≠ blk A' := by
  rcases h.2 with ⟨hv, _⟩ | ⟨g, cap, cur, hv, _, hg, _⟩
  · injection hv with h1
    exact .inl h1
  · rcases h'.2 with ⟨hv', _⟩ | ⟨g', cap', cur', hv', _, hg', _⟩
    · injection hv with h1
      injection hv' with h2
      subst h1 h2
      exact .inr (by simp [blk])
    · injection hv with h1
      injection hv' with h2
      subst h1 h2
      refine .inr ?_
      simp only [blk, Option.map_some, ne_eq, Option.some.injEq]
      rintro rfl
      rw [hg] at hg'
      injection hg' with hg'
      injection hg' with _ ht
      exact hne ht
end

/-- Below the base nothing turns where a row of the call's own grows. -/
theorem below_own {w0 w w' : World} {base e size n c : Nat} {A : Option Addr} {xs : List Value} (hb : Below base w0 w) (hg : w.grownBy w' (blk A)) (hown : Own w base e size A n c xs) (hsz : base ≤ w.heap.size) : Below base w0 w' :=
  hb.grown hg hsz fun _ hk => (hown.blk_ge hk).1

theorem blk_ne {A A' : Option Addr} {g p : Nat} (hat : blk A' = blk A ∨ blk A' = some g) (h : blk A ≠ some p) (hg : g ≠ p) : blk A' ≠ some p := by
  rcases hat with e | e
  · rw [e]
    exact h
  · rw [e]
    intro he
    injection he with he
    exact hg he

section
variable {P : Program}

theorem run_app_none (w : World) (base t ty e : Nat) (size bytes : Nat) (el : Elem P t e size bytes) (A : Option Addr) (n c : Nat) (xs : List Value) (hown : Own w base e size A n c xs) (k : Nat) :
    (Builtin.append_ #[t, t] ty #[.slice A n c, .slice none 0 k]).run P w = .ok (.slice A n c) w := by
  obtain ⟨i, z, hi, _⟩ := el.inf
  rcases hown.form with ⟨rfl, rfl, rfl⟩ | ⟨g, rfl, _, _, hc⟩
  · simp [Builtin.append_, run_underlying el.und, sizeOf, typeInfo, hi, Builtin.lenOf, Builtin.firstCells]
  · simp [Builtin.append_, run_underlying el.und, sizeOf, typeInfo, hi, Builtin.lenOf, Builtin.firstCells, hc, storeCells]

theorem run_app (w : World) (base t ty e : Nat) (size bytes : Nat) (el : Elem P t e size bytes) (A : Option Addr) (n c : Nat) (xs : List Value) (hown : Own w base e size A n c xs)
    (B : Nat) (S : Option Addr) (m k : Nat) (news : List Value) (hr : Rd w B S news) (hl : news.length = m * size) (h1 : ∀ u ∈ news, u.oneCell' = true)
    (hbytes : (n + m) * bytes ≤ 140737488355328) (h63 : n + m ≤ maxLen) (hbase : base ≤ w.heap.size) :
    ∃ A' c' w', (Builtin.append_ #[t, t] ty #[.slice A n c, .slice S m k]).run P w = .ok (.slice A' (n + m) c') w' ∧ Own w' base e size A' (n + m) c' (xs ++ news) ∧ w.grownBy w' (blk A) ∧
      (blk A' = blk A ∨ blk A' = some w.heap.size) := by
  obtain ⟨i, z, hi, hz, hs, hb, hzs⟩ := el.inf
  rcases S with _ | ad
  · have hn : news = [] := by
      cases news with
      | nil => rfl
      | cons u us =>
        obtain ⟨a, h, _⟩ := hr 0 u rfl
        cases h
    subst hn
    have hm : m = 0 := by
      rcases Nat.eq_zero_or_pos m with h0 | h0
      · exact h0
      · have := Nat.mul_pos h0 el.pos
        simp at hl
        omega
    subst hm
    exact ⟨A, c, w, run_app_none w base t ty e size bytes el A n c xs hown k, by simpa [Own] using hown, World.grownBy.refl w _, .inl rfl⟩
  · obtain ⟨v', w', hrun, h2, h3, _, h5⟩ := run_append_own_at (P := P) w base t ty e i z size bytes el.und hi hz hs hb hzs el.pos (.slice A n c) n xs hown ad m k news hl
      (fun j u hu => by obtain ⟨a, h, _, hc⟩ := hr j u hu; injection h with h; subst h; exact hc) h1 h63 hbytes hbase
    rcases h2.2 with ⟨rfl, h0⟩ | ⟨g, cap, cur, rfl, rest⟩
    · refine ⟨none, 0, w', by rw [hrun, h0], ?_, by rw [← hown.blk_eq]; exact h3, ?_⟩
      · simp only [Own, h0]
        exact h0 ▸ h2
      · rw [← hown.blk_eq]
        exact h5
    · refine ⟨some ⟨g, 0, none⟩, cap, w', hrun, h2, by rw [← hown.blk_eq]; exact h3, ?_⟩
      rw [← hown.blk_eq]
      exact h5

/-- append as the walk meets it: N, zs: the new length and the new cells, spelled as the caller wants them. -/
theorem wpList_app {w : World} {ops : Array Oper} {rest : List Oper} {o : Oper} {a : Act} {Q : Exit → Act → World → Prop} (hgd : o.guard = none) (s x : Operand) (t : TypeId)
    (ho : o.op = .call { callee := .builtin .append, args := #[s, x], argTypes := #[t, t] })
    (base e size bytes : Nat) (el : Elem P t e size bytes) (A : Option Addr) (n c : Nat) (xs : List Value) (hs : a.eval s = .slice A n c) (hown : Own w base e size A n c xs)
    (B : Nat) (S : Option Addr) (m k : Nat) (news : List Value) (hx : a.eval x = .slice S m k) (hr : Rd w B S news) (hl : news.length = m * size) (h1 : ∀ u ∈ news, u.oneCell' = true)
    (N : Nat) (zs : List Value) (hN : n + m = N) (hzs : xs ++ news = zs)
    (hbytes : N * bytes ≤ 140737488355328) (h63 : N ≤ maxLen) (hbase : base ≤ w.heap.size)
    (h : ∀ A' c' w', Own w' base e size A' N c' zs → w.grownBy w' (blk A) → (blk A' = blk A ∨ blk A' = some w.heap.size) → wpList P ops Q rest (a.put o.dst (.slice A' N c')) w') : wpList P ops Q (o :: rest) a w := by
  subst hN hzs
  refine wpList_plain hgd fun K hK => ?_
  obtain ⟨A', c', w', hrun, h2, h3, h4⟩ := run_app (P := P) w base t o.type e size bytes el A n c xs hown B S m k news hr hl h1 hbytes h63 hbase
  unfold Oper.wp execOp
  simp only [ho, resolve, invoke, builtin, Sem.run_bind, Sem.run_pure, Result.andThen_ok, List.map_toArray, List.map_cons, List.map_nil, hs, hx, hrun]
  exact hK _ _ (h A' c' w' h2 h3 h4)

/-- append of values that the statement has just laid in a block of their own. -/
theorem wpList_app_new {w0 : World} {ops : Array Oper} {rest : List Oper} {o : Oper} {a : Act} {Q : Exit → Act → World → Prop} (hgd : o.guard = none) (s x : Operand) (t : TypeId)
    (ho : o.op = .call { callee := .builtin .append, args := #[s, x], argTypes := #[t, t] })
    (base e size bytes : Nat) (el : Elem P t e size bytes) (A : Option Addr) (n c : Nat) (xs : List Value) (hs : a.eval s = .slice A n c) (hown : Own w0 base e size A n c xs)
    (cs : Array Value) (g m k : Nat) (hg : g = w0.heap.size) (hx : a.eval x = .slice (some ⟨g, 0, none⟩) m k) (hl : cs.size = m * size) (h1 : ∀ u ∈ cs.toList, u.oneCell' = true)
    (N : Nat) (zs : List Value) (hN : n + m = N) (hzs : xs ++ cs.toList = zs)
    (hbytes : N * bytes ≤ 140737488355328) (h63 : N ≤ maxLen) (hbase : base ≤ w0.heap.size)
    (h : ∀ A' c' w', Own w' base e size A' N c' zs → w0.grownBy w' (blk A) → (blk A' = blk A ∨ blk A' = some (w0.heap.size + 1)) → wpList P ops Q rest (a.put o.dst (.slice A' N c')) w') : wpList P ops Q (o :: rest) a (w0.alloc (.cells cs e)) := by
  subst hg
  refine wpList_app hgd s x t ho base e size bytes el A n c xs hs (hown.alloc _) (w0.heap.size + 1) _ m k cs.toList hx ?_ (by simpa using hl) h1 N zs hN hzs hbytes h63 (by simp; omega) ?_
  · intro j u hu
    refine ⟨_, rfl, by simp, ?_⟩
    rw [Addr.add_lit, Nat.zero_add, World.cell?_alloc_new]
    simpa using hu
  · intro A' c' w' h2 h3 h4
    exact h A' c' w' h2 ((World.grownBy_alloc w0 _ _).trans h3) (by simpa using h4)

end

end Go.Proofs.Ytbhjcfhpabnadaa
