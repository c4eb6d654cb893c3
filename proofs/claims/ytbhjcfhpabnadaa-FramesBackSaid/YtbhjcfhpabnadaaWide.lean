/-
  append under the bound that Go's own growing of a slice keeps: a quarter more than what is needed fits.
-/
import Derived.Test.YtbhjcfhpabnadaaRow
import Derived.Deep.DeepAppendWide
namespace Go.Proofs.Ytbhjcfhpabnadaa
open Go.RowKit

section
variable {P : Program}

theorem run_appW (w : World) (base t ty e : Nat) (size bytes : Nat) (el : Elem P t e size bytes) (A : Option Addr) (n c : Nat) (xs : List Value) (hown : Own w base e size A n c xs)
    (B : Nat) (S : Option Addr) (m k : Nat) (news : List Value) (hr : Rd w B S news) (hl : news.length = m * size) (h1 : ∀ u ∈ news, u.oneCell' = true)
    (hbytes : ((n + m) + (n + m) / 4 + 192) * bytes ≤ 281474976710656) (h63 : n + m ≤ maxLen) (hbase : base ≤ w.heap.size) :
    ∃ A' c' w', (Builtin.append_ #[t, t] ty #[.slice A n c, .slice S m k]).run P w = .ok (.slice A' (n + m) c') w' ∧ Own w' base e size A' (n + m) c' (xs ++ news) ∧ w.grownBy w' (blk A) := by
  obtain ⟨i, z, hi, hz, hs, hb, hzs⟩ := el.inf
  rcases S with _ | ad
  · have hn : news = [] := by
      cases news with
      | nil => rfl
      | cons u us =>
        obtain ⟨a, h, _⟩ := hr 0 u rfl
        cases h
    subst hn
    have hm : m = 0 := by
      rcases Nat.eq_zero_or_pos m with h0 | h0
      · exact h0
      · have := Nat.mul_pos h0 el.pos
        simp at hl
        omega
    subst hm
    exact ⟨A, c, w, run_app_none w base t ty e size bytes el A n c xs hown k, by simpa [Own] using hown, World.grownBy.refl w _⟩
  · obtain ⟨v', w', hrun, h2, h3, _⟩ := run_append_own_wide (P := P) w base t ty e i z size bytes el.und hi hz hs hb hzs el.pos (.slice A n c) n xs hown ad m k news hl
      (fun j u hu => by obtain ⟨a, h, _, hc⟩ := hr j u hu; injection h with h; subst h; exact hc) h1 h63 hbytes hbase
    rcases h2.2 with ⟨rfl, h0⟩ | ⟨g, cap, cur, rfl, rest⟩
    · refine ⟨none, 0, w', by rw [hrun, h0], ?_, by rw [← hown.blk_eq]; exact h3⟩
      simp only [Own, h0]
      exact h0 ▸ h2
    · exact ⟨some ⟨g, 0, none⟩, cap, w', hrun, h2, by rw [← hown.blk_eq]; exact h3⟩

/-- append as the walk meets it, under the wide bound. -/
theorem wpList_appW {w : World} {ops : Array Oper} {rest : List Oper} {o : Oper} {a : Act} {Q : Exit → Act → World → Prop} (hgd : o.guard = none) (s x : Operand) (t : TypeId)
    (ho : o.op = .call { callee := .builtin .append, args := #[s, x], argTypes := #[t, t] })
    (base e size bytes : Nat) (el : Elem P t e size bytes) (A : Option Addr) (n c : Nat) (xs : List Value) (hs : a.eval s = .slice A n c) (hown : Own w base e size A n c xs)
    (B : Nat) (S : Option Addr) (m k : Nat) (news : List Value) (hx : a.eval x = .slice S m k) (hr : Rd w B S news) (hl : news.length = m * size) (h1 : ∀ u ∈ news, u.oneCell' = true)
    (N : Nat) (zs : List Value) (hN : n + m = N) (hzs : xs ++ news = zs)
    (hbytes : (N + N / 4 + 192) * bytes ≤ 281474976710656) (h63 : N ≤ maxLen) (hbase : base ≤ w.heap.size)
    (h : ∀ A' c' w', Own w' base e size A' N c' zs → w.grownBy w' (blk A) → wpList P ops Q rest (a.put o.dst (.slice A' N c')) w') : wpList P ops Q (o :: rest) a w := by
  subst hN hzs
  refine wpList_plain hgd fun K hK => ?_
  obtain ⟨A', c', w', hrun, h2, h3⟩ := run_appW (P := P) w base t o.type e size bytes el A n c xs hown B S m k news hr hl h1 hbytes h63 hbase
  unfold Oper.wp execOp
  simp only [ho, resolve, invoke, builtin, Sem.run_bind, Sem.run_pure, Result.andThen_ok, List.map_toArray, List.map_cons, List.map_nil, hs, hx, hrun]
  exact hK _ _ (h A' c' w' h2 h3)

/-- append of values that the statement has just laid, under the wide bound. -/
theorem wpList_app_newW {w0 : World} {ops : Array Oper} {rest : List Oper} {o : Oper} {a : Act} {Q : Exit → Act → World → Prop} (hgd : o.guard = none) (s x : Operand) (t : TypeId)
    (ho : o.op = .call { callee := .builtin .append, args := #[s, x], argTypes := #[t, t] })
    (base e size bytes : Nat) (el : Elem P t e size bytes) (A : Option Addr) (n c : Nat) (xs : List Value) (hs : a.eval s = .slice A n c) (hown : Own w0 base e size A n c xs)
    (cs : Array Value) (g m k : Nat) (hg : g = w0.heap.size) (hx : a.eval x = .slice (some ⟨g, 0, none⟩) m k) (hl : cs.size = m * size) (h1 : ∀ u ∈ cs.toList, u.oneCell' = true)
    (N : Nat) (zs : List Value) (hN : n + m = N) (hzs : xs ++ cs.toList = zs)
    (hbytes : (N + N / 4 + 192) * bytes ≤ 281474976710656) (h63 : N ≤ maxLen) (hbase : base ≤ w0.heap.size)
    (h : ∀ A' c' w', Own w' base e size A' N c' zs → w0.grownBy w' (blk A) → wpList P ops Q rest (a.put o.dst (.slice A' N c')) w') : wpList P ops Q (o :: rest) a (w0.alloc (.cells cs e)) := by
  subst hg
  refine wpList_appW hgd s x t ho base e size bytes el A n c xs hs (hown.alloc _) (w0.heap.size + 1) _ m k cs.toList hx ?_ (by simpa using hl) h1 N zs hN hzs hbytes h63 (by simp; omega) ?_
  · intro j u hu
    refine ⟨_, rfl, by simp, ?_⟩
    rw [Addr.add_lit, Nat.zero_add, World.cell?_alloc_new]
    simpa using hu
  · intro A' c' w' h2 h3
    exact h A' c' w' h2 ((World.grownBy_alloc w0 _ _).trans h3)
end

end Go.Proofs.Ytbhjcfhpabnadaa
