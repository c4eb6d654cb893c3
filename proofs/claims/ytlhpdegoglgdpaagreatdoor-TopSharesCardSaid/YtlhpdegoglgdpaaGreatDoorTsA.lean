/- A part of the proof of TopShares: for every row of weights the law returns true, and the row reads as before. No condition beyond the statement's own. -/
import Derived.WalkKit
import Derived.WalkSpells
import Derived.WalkLawsBesides
import Derived.Lib.Hide
import Derived.Deep.Draws
import Derived.Deep.QuietTactic
import Derived.BigQuiet
import Derived.Deep.AppendLies
import Derived.Maps.AppendAt
import Derived.Test.YtlhpdegoglgdpaaGreatDoorEvCw
import Derived.Test.YtlhpdegoglgdpaaGreatDoorProg
import Derived.Test.YtlhpdegoglgdpaaGreatDoorEvPl
import Derived.Test.YtlhpdegoglgdpaaGreatDoorAwC
set_option linter.all false
set_option linter.unusedVariables false
set_option linter.unusedSimpArgs false
set_option linter.constructorNameAsVariable false
set_option linter.deprecated false
namespace Go.Proofs.Sh
open Go.RowKit
def bv (xs : List UInt8) : List Value := xs.map fun b => .int .u8 (b.toNat : Int)
theorem bv_length (xs : List UInt8) : (bv xs).length = xs.length := by simp [bv]
theorem bv_append (xs ys : List UInt8) : bv (xs ++ ys) = bv xs ++ bv ys := by simp [bv]
theorem bv_get (xs : List UInt8) (k : Nat) (h : k < xs.length) : (bv xs)[k]? = some (.int .u8 (xs[k].toNat : Int)) := by
  simp [bv, h]
theorem bv_one (xs : List UInt8) : ∀ u ∈ bv xs, u.oneCell' = true := by
  intro u hu
  simp only [bv, List.mem_map] at hu
  obtain ⟨b, _, rfl⟩ := hu
  rfl
theorem add_block (a : Addr) (n : Nat) : (a.add n).block = a.block := by unfold Addr.add; split <;> rfl
theorem add_add' (a : Addr) (i j : Nat) : (a.add i).add j = a.add (i + j) := by
  unfold Addr.add
  by_cases hi : i = 0 <;> by_cases hj : j = 0 <;> simp [hi, hj, Nat.add_assoc]
def Rd (w : World) (B : Nat) (A : Option Addr) (xs : List Value) : Prop :=
  ∀ j u, xs[j]? = some u → ∃ a, A = some a ∧ a.block < B ∧ w.cell? (a.add j) = some u
section
variable {w w' : World} {B B' : Nat} {A : Option Addr} {xs : List Value}
theorem Rd.nil_ (w : World) (B : Nat) (A : Option Addr) : Rd w B A [] := fun j u h => by simp at h
theorem Rd.same_ (h : Rd w B A xs) (hk : ∀ p : Addr, p.block < B → w'.cell? p = w.cell? p) : Rd w' B A xs := fun j u hu => by
  obtain ⟨a, e, hb, hc⟩ := h j u hu
  exact ⟨a, e, hb, (hk _ (by rw [add_block]; exact hb)).trans hc⟩
theorem Rd.more (h : Rd w B A xs) (hB : B ≤ B') : Rd w B' A xs := fun j u hu => by
  obtain ⟨a, e, hb, hc⟩ := h j u hu
  exact ⟨a, e, by omega, hc⟩
theorem Rd.below (h : Rd w B A xs) (hb : Below B w w') : Rd w' B A xs := h.same_ fun _ hp => hb.cell hp
theorem Rd.drewN (h : Rd w B A xs) (k : Nat) : Rd (w.drewN k) B A xs := h
theorem Rd.alloc (h : Rd w B A xs) (hB : B ≤ w.heap.size) (o : Obj) : Rd (w.alloc o) B A xs := h.same_ fun p hp => World.cell?_alloc_lt w o p (by omega)
theorem Rd.byte {ys : List UInt8} (h : Rd w B A (bv ys)) {k : Nat} (hk : k < ys.length) :
    ∃ a, A = some a ∧ a.block < B ∧ w.cell? (a.add k) = some (.int .u8 (ys[k].toNat : Int)) := h k _ (bv_get ys k hk)
theorem Rd.take (h : Rd w B A xs) (n : Nat) : Rd w B A (xs.take n) := fun j u hu => by
  rw [List.getElem?_take] at hu
  split at hu
  · exact h j u hu
  · cases hu
theorem Rd.cut (h : Rd w B A xs) (k cap : Nat) (hc : xs.length ≤ cap) :
    Rd w B (if cap = k then A else A.map (·.add k)) (xs.drop k) := fun j u hu => by
  have hl := (List.getElem?_eq_some_iff.1 hu).1
  rw [List.length_drop] at hl
  rw [List.getElem?_drop] at hu
  obtain ⟨a, rfl, hb, hcell⟩ := h _ u hu
  rw [if_neg (by omega)]
  exact ⟨a.add k, rfl, by rw [add_block]; exact hb, by rw [add_add']; exact hcell⟩
end
theorem below_drewN {B : Nat} {a w : World} (h : Below B a w) (n : Nat) : Below B a (w.drewN n) := ⟨h.os, h.tape, h.output, h.size, h.block⟩
end Go.Proofs.Sh
namespace Go.Proofs.Sh
open Go.RowKit
structure Elem (P : Program) (t e : TypeId) (size bytes : Nat) : Prop where
  und : P.underlying t = some (.slice e)
  inf : ∃ i z, P.info? e = some i ∧ i.zero = some z ∧ i.size = size ∧ i.bytes = bytes ∧ z.cells.size = size
  pos : 0 < size
theorem Elem.of {P : Program} {t e : TypeId} {z : Value} {size bytes : Nat} (hu : P.underlying t = some (.slice e)) (h : (P.info? e).map (fun i => (i.zero, i.size, i.bytes)) = some (some z, size, bytes))
    (hz : z.cells.size = size) (hp : 0 < size) : Elem P t e size bytes :=
  let ⟨i, a, b, c, d⟩ := info_parts h
  ⟨hu, ⟨i, z, a, b, c, d, hz⟩, hp⟩
def Own (w : World) (base : Nat) (e : TypeId) (size : Nat) (A : Option Addr) (n c : Nat) (xs : List Value) : Prop := w.ownsRow base e size (.slice A n c) n xs
def blk (A : Option Addr) : Option Nat := A.map (·.block)
section
variable {w w' : World} {base e size n c : Nat} {A : Option Addr} {xs : List Value}
theorem Own.nil_ (w : World) (base e size : Nat) : Own w base e size none 0 0 [] := World.ownsRow_nil _ _ _ _
theorem Own.len (h : Own w base e size A n c xs) : xs.length = n * size := h.1
theorem Own.blk_eq (_ : Own w base e size A n c xs) : Value.ownBlock (.slice A n c) = blk A := by cases A <;> rfl
theorem Own.form (h : Own w base e size A n c xs) : (A = none ∧ n = 0 ∧ c = 0) ∨ ∃ g, A = some ⟨g, 0, none⟩ ∧ base ≤ g ∧ g < w.heap.size ∧ n ≤ c := by
  rcases h.2 with ⟨hv, h0⟩ | ⟨g, cap, cur, hv, hb, hg, hc, _⟩
  · injection hv with h1 h2 h3
    exact .inl ⟨h1, h2, h3⟩
  · injection hv with h1 h2 h3
    subst h3
    exact .inr ⟨g, h1, hb, (Array.getElem?_eq_some_iff.1 hg).1, hc⟩
theorem Own.form_pos (h : Own w base e size A n c xs) (hn : 0 < n) : ∃ g, A = some ⟨g, 0, none⟩ ∧ base ≤ g ∧ g < w.heap.size ∧ n ≤ c := by
  rcases h.form with ⟨_, h0, _⟩ | h
  · omega
  · exact h
theorem Own.kept (h : Own w base e size A n c xs) {row : Option Nat} (hg : w.grownBy w' row) (hne : A = none ∨ blk A ≠ row) : Own w' base e size A n c xs :=
  World.ownsRow.kept h hg (by rcases hne with rfl | hne; exact .inl rfl; exact .inr (by rw [h.blk_eq]; exact hne))
theorem Own.of_blocks (h : Own w base e size A n c xs) (hg : ∀ k, k < w.heap.size → base ≤ k → w'.heap[k]? = w.heap[k]?) : Own w' base e size A n c xs := by
  refine ⟨h.1, ?_⟩
  rcases h.2 with hn | ⟨g, cap, cur, hv, hb, hgg, rest⟩
  · exact .inl hn
  · refine .inr ⟨g, cap, cur, hv, hb, ?_, rest⟩
    rw [hg g (Array.getElem?_eq_some_iff.1 hgg).1 hb]
    exact hgg
theorem Own.alloc (h : Own w base e size A n c xs) (o : Obj) : Own (w.alloc o) base e size A n c xs := World.ownsRow.alloc h o
theorem Own.drewN (h : Own w base e size A n c xs) (k : Nat) : Own (w.drewN k) base e size A n c xs := h
theorem Own.below {B : Nat} (h : Own w base e size A n c xs) (hb : Below B w w') (hB : w.heap.size ≤ B) : Own w' base e size A n c xs :=
  h.of_blocks fun k hk _ => hb.block k (by omega)
theorem Own.setCell_low (h : Own w base e size A n c xs) {p : Addr} (hp : p.block < base) (u : Value) : Own (w.setCell p u) base e size A n c xs := ownsRow_setCell_below h hp u
theorem Own.rd (h : Own w base e size A n c xs) : Rd w w.heap.size A xs := fun j u hu => by
  rcases h.form with ⟨rfl, rfl, _⟩ | ⟨g, rfl, hb, hlt, hc⟩
  · have := h.len
    have hl := (List.getElem?_eq_some_iff.1 hu).1
    omega
  · exact ⟨_, rfl, hlt, World.ownsRow.cells h (g := g) rfl j u hu⟩
theorem Own.base_le {base' : Nat} (h : Own w base e size A n c xs) (hb : base' ≤ base) : Own w base' e size A n c xs := by
  refine ⟨h.1, ?_⟩
  rcases h.2 with hn | ⟨g, cap, cur, hv, hg, rest⟩
  · exact .inl hn
  · exact .inr ⟨g, cap, cur, hv, by omega, rest⟩
theorem Own.blk_ge (h : Own w base e size A n c xs) {g : Nat} (hg : blk A = some g) : base ≤ g ∧ g < w.heap.size := by
  rcases h.form with ⟨rfl, _, _⟩ | ⟨g', rfl, hb, hlt, _⟩
  · simp [blk] at hg
  · simp [blk] at hg
    omega
theorem Own.blk_new (h : Own w base e size A n c xs) {g : Nat} (hg : w.heap.size ≤ g) : blk A ≠ some g := fun he => by
  have := (h.blk_ge he).2
  omega
theorem Own.ne_ {base' e' size' n' c' : Nat} {A' : Option Addr} {xs' : List Value} (h : Own w base e size A n c xs) (h' : Own w base' e' size' A' n' c' xs') (hne : e ≠ e') : A = none ∨ blk A ≠ blk A' := by
  rcases h.2 with ⟨hv, _⟩ | ⟨g, cap, cur, hv, _, hg, _⟩
  · injection hv with h1
    exact .inl h1
  · rcases h'.2 with ⟨hv', _⟩ | ⟨g', cap', cur', hv', _, hg', _⟩
    · injection hv with h1
      injection hv' with h2
      subst h1 h2
      exact .inr (by simp [blk])
    · injection hv with h1
      injection hv' with h2
      subst h1 h2
      refine .inr ?_
      simp only [blk, Option.map_some, ne_eq, Option.some.injEq]
      rintro rfl
      rw [hg] at hg'
      injection hg' with hg'
      injection hg' with _ ht
      exact hne ht
end
theorem below_own {w0 w w' : World} {base e size n c : Nat} {A : Option Addr} {xs : List Value} (hb : Below base w0 w) (hg : w.grownBy w' (blk A)) (hown : Own w base e size A n c xs) (hsz : base ≤ w.heap.size) : Below base w0 w' :=
  hb.grown hg hsz fun _ hk => (hown.blk_ge hk).1
theorem blk_ne {A A' : Option Addr} {g p : Nat} (hat : blk A' = blk A ∨ blk A' = some g) (h : blk A ≠ some p) (hg : g ≠ p) : blk A' ≠ some p := by
  rcases hat with e | e
  · rw [e]
    exact h
  · rw [e]
    intro he
    injection he with he
    exact hg he
section
variable {P : Program}
theorem run_app_none (w : World) (base t ty e : Nat) (size bytes : Nat) (el : Elem P t e size bytes) (A : Option Addr) (n c : Nat) (xs : List Value) (hown : Own w base e size A n c xs) (k : Nat) :
    (Builtin.append_ #[t, t] ty #[.slice A n c, .slice none 0 k]).run P w = .ok (.slice A n c) w := by
  obtain ⟨i, z, hi, _⟩ := el.inf
  rcases hown.form with ⟨rfl, rfl, rfl⟩ | ⟨g, rfl, _, _, hc⟩
  · simp [Builtin.append_, run_underlying el.und, sizeOf, typeInfo, hi, Builtin.lenOf, Builtin.firstCells]
  · simp [Builtin.append_, run_underlying el.und, sizeOf, typeInfo, hi, Builtin.lenOf, Builtin.firstCells, hc, storeCells]
theorem run_app (w : World) (base t ty e : Nat) (size bytes : Nat) (el : Elem P t e size bytes) (A : Option Addr) (n c : Nat) (xs : List Value) (hown : Own w base e size A n c xs)
    (B : Nat) (S : Option Addr) (m k : Nat) (news : List Value) (hr : Rd w B S news) (hl : news.length = m * size) (h1 : ∀ u ∈ news, u.oneCell' = true)
    (hbytes : (n + m) * bytes ≤ 140737488355328) (h63 : n + m ≤ maxLen) (hbase : base ≤ w.heap.size) :
    ∃ A' c' w', (Builtin.append_ #[t, t] ty #[.slice A n c, .slice S m k]).run P w = .ok (.slice A' (n + m) c') w' ∧ Own w' base e size A' (n + m) c' (xs ++ news) ∧ w.grownBy w' (blk A) ∧
      (blk A' = blk A ∨ blk A' = some w.heap.size) := by
  obtain ⟨i, z, hi, hz, hs, hb, hzs⟩ := el.inf
  rcases S with _ | ad
  · have hn : news = [] := by
      cases news with
      | nil => rfl
      | cons u us =>
        obtain ⟨a, h, _⟩ := hr 0 u rfl
        cases h
    subst hn
    have hm : m = 0 := by
      rcases Nat.eq_zero_or_pos m with h0 | h0
      · exact h0
      · have := Nat.mul_pos h0 el.pos
        simp at hl
        omega
    subst hm
    exact ⟨A, c, w, run_app_none w base t ty e size bytes el A n c xs hown k, by simpa [Own] using hown, World.grownBy.refl w _, .inl rfl⟩
  · obtain ⟨v', w', hrun, h2, h3, _, h5⟩ := run_append_own_at (P := P) w base t ty e i z size bytes el.und hi hz hs hb hzs el.pos (.slice A n c) n xs hown ad m k news hl
      (fun j u hu => by obtain ⟨a, h, _, hc⟩ := hr j u hu; injection h with h; subst h; exact hc) h1 h63 hbytes hbase
    rcases h2.2 with ⟨rfl, h0⟩ | ⟨g, cap, cur, rfl, rest⟩
    · refine ⟨none, 0, w', by rw [hrun, h0], ?_, by rw [← hown.blk_eq]; exact h3, ?_⟩
      · simp only [Own, h0]
        exact h0 ▸ h2
      · rw [← hown.blk_eq]
        exact h5
    · refine ⟨some ⟨g, 0, none⟩, cap, w', hrun, h2, by rw [← hown.blk_eq]; exact h3, ?_⟩
      rw [← hown.blk_eq]
      exact h5
theorem wpList_app {w : World} {ops : Array Oper} {rest : List Oper} {o : Oper} {a : Act} {Q : Exit → Act → World → Prop} (hgd : o.guard = none) (s x : Operand) (t : TypeId)
    (ho : o.op = .call { callee := .builtin .append, args := #[s, x], argTypes := #[t, t] })
    (base e size bytes : Nat) (el : Elem P t e size bytes) (A : Option Addr) (n c : Nat) (xs : List Value) (hs : a.eval s = .slice A n c) (hown : Own w base e size A n c xs)
    (B : Nat) (S : Option Addr) (m k : Nat) (news : List Value) (hx : a.eval x = .slice S m k) (hr : Rd w B S news) (hl : news.length = m * size) (h1 : ∀ u ∈ news, u.oneCell' = true)
    (N : Nat) (zs : List Value) (hN : n + m = N) (hzs : xs ++ news = zs)
    (hbytes : N * bytes ≤ 140737488355328) (h63 : N ≤ maxLen) (hbase : base ≤ w.heap.size)
    (h : ∀ A' c' w', Own w' base e size A' N c' zs → w.grownBy w' (blk A) → (blk A' = blk A ∨ blk A' = some w.heap.size) → wpList P ops Q rest (a.put o.dst (.slice A' N c')) w') : wpList P ops Q (o :: rest) a w := by
  subst hN hzs
  refine wpList_plain hgd fun K hK => ?_
  obtain ⟨A', c', w', hrun, h2, h3, h4⟩ := run_app (P := P) w base t o.type e size bytes el A n c xs hown B S m k news hr hl h1 hbytes h63 hbase
  unfold Oper.wp execOp
  simp only [ho, resolve, invoke, builtin, Sem.run_bind, Sem.run_pure, Result.andThen_ok, List.map_toArray, List.map_cons, List.map_nil, hs, hx, hrun]
  exact hK _ _ (h A' c' w' h2 h3 h4)
theorem wpList_app_new {w0 : World} {ops : Array Oper} {rest : List Oper} {o : Oper} {a : Act} {Q : Exit → Act → World → Prop} (hgd : o.guard = none) (s x : Operand) (t : TypeId)
    (ho : o.op = .call { callee := .builtin .append, args := #[s, x], argTypes := #[t, t] })
    (base e size bytes : Nat) (el : Elem P t e size bytes) (A : Option Addr) (n c : Nat) (xs : List Value) (hs : a.eval s = .slice A n c) (hown : Own w0 base e size A n c xs)
    (cs : Array Value) (g m k : Nat) (hg : g = w0.heap.size) (hx : a.eval x = .slice (some ⟨g, 0, none⟩) m k) (hl : cs.size = m * size) (h1 : ∀ u ∈ cs.toList, u.oneCell' = true)
    (N : Nat) (zs : List Value) (hN : n + m = N) (hzs : xs ++ cs.toList = zs)
    (hbytes : N * bytes ≤ 140737488355328) (h63 : N ≤ maxLen) (hbase : base ≤ w0.heap.size)
    (h : ∀ A' c' w', Own w' base e size A' N c' zs → w0.grownBy w' (blk A) → (blk A' = blk A ∨ blk A' = some (w0.heap.size + 1)) → wpList P ops Q rest (a.put o.dst (.slice A' N c')) w') : wpList P ops Q (o :: rest) a (w0.alloc (.cells cs e)) := by
  subst hg
  refine wpList_app hgd s x t ho base e size bytes el A n c xs hs (hown.alloc _) (w0.heap.size + 1) _ m k cs.toList hx ?_ (by simpa using hl) h1 N zs hN hzs hbytes h63 (by simp; omega) ?_
  · intro j u hu
    refine ⟨_, rfl, by simp, ?_⟩
    rw [Addr.add_lit, Nat.zero_add, World.cell?_alloc_new]
    simpa using hu
  · intro A' c' w' h2 h3 h4
    exact h A' c' w' h2 ((World.grownBy_alloc w0 _ _).trans h3) (by simpa using h4)
end
end Go.Proofs.Sh
namespace Go.Proofs.Sh
open Go.RowKit Go.Ev
theorem run_store_float {P : Program} {w : World} {a : Addr} {m : Mode} (k : FloatKind) (b : Nat) : (store a (.float k b) m).run P w = stored P w a (.float k b) m := run_store P w a _ m rfl
theorem run_flt_gtr {P : Program} {w : World} {xt : TypeId} (k : FloatKind) (a b : Nat) : (Go.binOp .gtr xt (.float k a) (.float k b)).run P w = .ok (.bool (k.format.order a b == some .gt)) w := by
  simp only [Go.binOp, Op.floatCmp, ne_eq, not_true_eq_false, if_false]; rfl
theorem run_flt_add {P : Program} {w : World} {xt : TypeId} (k : FloatKind) (a b r : Nat) (h : k.format.add a b = some r) : (Go.binOp .add xt (.float k a) (.float k b)).run P w = .ok (.float k r) w := by
  simp [Go.binOp, Op.floatArith, h]
attribute [local go_sem] run_store_float run_flt_gtr
theorem elShare : Elem Tryz.prog 93 157 2 24 := Elem.of (z := .agg #[.string ⟨#[]⟩, .float .f64 0]) Tryz.underlying93 (by kernel_rfl) rfl (by decide)
theorem shareCells_append (a b : List (Value × Nat)) : shareCells (a ++ b) = shareCells a ++ shareCells b := by
  induction a with
  | nil => rfl
  | cons p a ih => obtain ⟨s, u⟩ := p; simp [shareCells, ih]
theorem shareCells_get {ps : List (Value × Nat)} {k : Nat} {p : Value × Nat} (h : ps[k]? = some p) : (shareCells ps)[2 * k]? = some p.1 ∧ (shareCells ps)[2 * k + 1]? = some (.float .f64 p.2) := by
  induction ps generalizing k with
  | nil => simp at h
  | cons q ps ih =>
    obtain ⟨s, u⟩ := q
    cases k with
    | zero => simp only [List.getElem?_cons_zero, Option.some.injEq] at h; subst h; exact ⟨rfl, rfl⟩
    | succ k =>
      have := ih (k := k) (by simpa using h)
      rw [show 2 * (k + 1) = 2 * k + 2 from by omega, show 2 * k + 2 + 1 = 2 * k + 1 + 2 from by omega]
      simpa [shareCells] using this
theorem lastOne_cells : ∀ (done : List (Value × Nat)) (q : Nat), done.length = q + 1 → shareCells (lastOne done) = (shareCells done).set (q * 2 + 1) (.float .f64 oneW)
  | [], q, h => by simp at h
  | [(s, u)], q, h => by
    have : q = 0 := by simpa using h.symm
    subst this
    rfl
  | p :: r :: l, q, h => by
    obtain ⟨s, u⟩ := p
    obtain ⟨q', rfl⟩ : ∃ q', q = q' + 1 := ⟨q - 1, by simp at h; omega⟩
    have ih := lastOne_cells (r :: l) q' (by simpa using h)
    have e : lastOne ((s, u) :: r :: l) = (s, u) :: lastOne (r :: l) := rfl
    rw [e]
    show s :: .float .f64 u :: shareCells (lastOne (r :: l)) = (s :: .float .f64 u :: shareCells (r :: l)).set ((q' + 1) * 2 + 1) _
    rw [ih, show (q' + 1) * 2 + 1 = q' * 2 + 1 + 1 + 1 from by omega]
    rfl
set_option maxRecDepth 100000 in
set_option maxHeartbeats 2000000 in
theorem steps_any (c j cap : Nat) (ps : List (Value × Nat)) (w : World) (hstr : ∀ p ∈ ps, ∃ s, p.1 = .string s) (hok : sumsOk ps 0) (hcap : ps.length ≤ cap) (hlen : ps.length ≤ 65536)
    (hcells : ∀ (i : Nat) (u : Value), (shareCells ps)[i]? = some u → w.cell? ⟨c, j + i, none⟩ = some u) (hc : c < w.heap.size) :
    Calls Tryz.prog 70 #[.slice (some ⟨c, j, none⟩) ps.length cap] w fun e' w' => ∃ u, e' = .returned u ∧ OldKept w w' ∧ (sumsOf ps 0 = [] → u = .slice none 0 0) ∧
      (sumsOf ps 0 ≠ [] → ∃ b cap' cc lo, u = .slice (some ⟨b, 0, none⟩) (sumsOf ps 0).length cap' ∧ (sumsOf ps 0).length ≤ cap' ∧ cap' * 2 ≤ cc.size ∧ w.heap.size ≤ b ∧ w'.heap[b]? = some (.cells cc 157 (lo, lo)) ∧
        ∀ (i : Nat) (v : Value), (shareCells (lastOne (sumsOf ps 0)))[i]? = some v → cc[i]? = some v) := by
  go_enter Tryz.func70, Tryz.ntmps70
  go_wp2
  go_loopw [3, 4, 9] (fun o s i wr => ∃ (k m co t : Nat) (O : Option Addr) (done : List (Value × Nat)), k ≤ ps.length ∧ i = .int .i64 k ∧ o = .slice O m co ∧ s = .float .f64 t ∧ m ≤ k ∧ Hid (m = done.length) ∧ (m = 0 → O = none ∧ co = 0) ∧ Own wr w.heap.size 157 2 O m co (shareCells done) ∧
      sumsOf ps 0 = done ++ sumsOf (ps.drop k) t ∧ sumsOk (ps.drop k) t ∧ Below w.heap.size w wr) (fun _ _ i _ => ps.length - (intOf i).toNat)
  case atStart => exact ⟨0, 0, 0, 0, none, [], Nat.zero_le _, rfl, rfl, rfl, Nat.le_refl _, rfl, fun _ => ⟨rfl, rfl⟩, Own.nil_ _ _ _ _, rfl, hok, Below.refl _ _⟩
  case round =>
    obtain ⟨k, m, co, t, O, done, hk, rfl, rfl, rfl, hmk, hm, hz, hown, hsum, hokk, hbel⟩ := hrel
    by_cases hlt : k < ps.length
    · have hp := List.getElem?_eq_getElem hlt
      obtain ⟨s, hs⟩ := hstr ps[k] (List.getElem_mem hlt)
      obtain ⟨c1, c2⟩ := shareCells_get hp
      have d1 := (hbel.cell (p := ⟨c, j + 2 * k, none⟩) hc).trans (hcells _ _ c1)
      have d2 := (hbel.cell (p := ⟨c, j + (2 * k + 1), none⟩) hc).trans (hcells _ _ c2)
      rw [hs, Nat.mul_comm] at d1
      rw [Nat.mul_comm, ← Nat.add_assoc] at d2
      generalize hu : ps[k].2 = u at d2
      have hdrop : ps.drop k = (.string s, u) :: ps.drop (k + 1) := by
        rw [List.drop_eq_getElem_cons hlt]
        congr 1
        rw [← hs, ← hu]
      rw [hdrop] at hsum hokk
      have HM := hm
      cases hgt : (FloatKind.f64.format.order u 0 == some Ordering.gt) with
      | false =>
        have hs2 : sumsOf ((.string s, u) :: ps.drop (k + 1)) t = sumsOf (ps.drop (k + 1)) t := by
          conv => lhs; unfold sumsOf
          rw [hgt]; rfl
        have ho2 : sumsOk (ps.drop (k + 1)) t := by
          unfold sumsOk at hokk
          rw [hgt] at hokk; exact hokk
        rw [hs2] at hsum
        go_wp2
        go_roundw
        case rel => exact ⟨k + 1, m, co, t, O, done, by omega, by go_num, rfl, rfl, by omega, HM, hz, hown.alloc _, hsum, ho2, hbel.alloc hbel.size _⟩
        case measure => simp [intOf]; omega
      | true =>
        obtain ⟨t', ht', ho2⟩ : ∃ t', FloatKind.f64.format.add t u = some t' ∧ sumsOk (ps.drop (k + 1)) t' := by
          unfold sumsOk at hokk
          rw [hgt] at hokk; exact hokk
        have hs2 : sumsOf ((.string s, u) :: ps.drop (k + 1)) t = (.string s, t') :: sumsOf (ps.drop (k + 1)) t' := by
          conv => lhs; unfold sumsOf
          rw [hgt]
          simp only [if_true, ht']
        rw [hs2] at hsum
        have hadd : ∀ w, (Go.binOp .add 34 (.float .f64 t) (.float .f64 u)).run Tryz.prog w = .ok (.float .f64 t') w := fun w => run_flt_add _ _ _ _ ht'
        have HZ := Lib.hid (show shareCells done ++ [.string s, .float .f64 t'] = shareCells (done ++ [(.string s, t')]) by rw [shareCells_append]; rfl)
        have HS := Lib.hid (show sumsOf ps 0 = (done ++ [(.string s, t')]) ++ sumsOf (ps.drop (k + 1)) t' by rw [hsum]; simp)
        have HN := Lib.hid (show m + 1 = (done ++ [(Value.string s, t')]).length by rw [List.length_append, ← HM.out]; rfl)
        clear hsum hs2 hdrop
        go_wp2_with (first
          | (at_builtin; go_loud (refine wpList_app_new rfl (.tmp 20) (.tmp 25) 93 rfl w.heap.size 157 2 24 elShare O m co _ rfl (hown.alloc _) #[.string s, .float .f64 t'] (wr.heap.size + 1) 1 1 (by simp) rfl rfl (by simp [Value.oneCell']) (m + 1) _ rfl HZ.out (by omega) (by unfold maxLen; omega) (hbel.alloc hbel.size _).size ?_); intro O3 co3 w3 hown3 hg3 hat3; have b3 := below_own (hbel.alloc hbel.size _) hg3 (hown.alloc _) (hbel.alloc hbel.size _).size)
          | fail)
        go_roundw
        case rel => exact ⟨k + 1, m + 1, co3, t', O3, _, by omega, by go_num, rfl, rfl, by omega, HN, fun h => absurd h (Nat.succ_ne_zero m), hown3, HS.out, ho2, b3⟩
        case measure => simp [intOf]; omega
    · have hd : ps.drop k = [] := List.drop_eq_nil_of_le (by omega)
      rw [hd] at hsum
      replace hsum : sumsOf ps 0 = done := by simpa [sumsOf] using hsum
      have hk2 : k = ps.length := by omega
      clear hokk hd
      by_cases hm0 : m = 0
      · obtain ⟨rfl, rfl⟩ := hz hm0
        have hdn : done = [] := List.eq_nil_of_length_eq_zero (by rw [← hm.out]; exact hm0)
        subst hm0
        have HS := Lib.hid (hsum.trans hdn)
        clear hsum hm hdn hk2
        go_wp2
        go_ret
        exact ⟨_, rfl, ⟨hbel.block, hbel.size, hbel.os, hbel.tape, hbel.output⟩, fun _ => rfl, fun h => absurd HS.out h⟩
      · obtain ⟨q, rfl⟩ : ∃ q, m = q + 1 := ⟨m - 1, by omega⟩
        obtain ⟨hl, hrow⟩ := id hown
        obtain ⟨g, cap', cur, hv, hbg, hgg, hnc, hcm, hcs, htk⟩ := hrow.resolve_left (fun h => by have := h.2; omega)
        injection hv with h1 h2 h3
        subst h1 h3
        have hgl : g < wr.heap.size := (Array.getElem?_eq_some_iff.1 hgg).1
        have hin : q * 2 + 1 < cur.size := by omega
        obtain ⟨old, hold⟩ : ∃ old, wr.cell? ⟨g, q * 2 + 1, none⟩ = some old := ⟨cur[q * 2 + 1], by simp [World.cell?, hgg, hin]⟩
        have hfr : wr.frozen? ⟨g, q * 2 + 1, none⟩ = false := by
          simp [World.frozen?, hgg]
        have hheap : (wr.setCell ⟨g, q * 2 + 1, none⟩ (.float .f64 oneW)).heap[g]? = some (.cells (cur.setIfInBounds (q * 2 + 1) (.float .f64 oneW)) 157 (0, 0)) := by
          simp [World.setCell, hgg, Array.getElem?_modify]
        have hlast : ∀ (i : Nat) (v : Value), (shareCells (lastOne done))[i]? = some v → (cur.setIfInBounds (q * 2 + 1) (.float .f64 oneW))[i]? = some v := by
          intro i v hi
          have hlen : (shareCells done).length = (q + 1) * 2 := hl
          have hl2 : (shareCells (lastOne done)).length = (q + 1) * 2 := by rw [length_shareCells, length_lastOne]; rw [length_shareCells] at hlen; omega
          have hi2 := (List.getElem?_eq_some_iff.1 hi).1
          rw [lastOne_cells done q (by rw [length_shareCells] at hlen; omega)] at hi
          rw [← htk] at hi
          rw [Array.getElem?_setIfInBounds]
          rw [List.getElem?_set] at hi
          have hcl : cur.toList.length = cur.size := by simp
          by_cases e : q * 2 + 1 = i
          · subst e
            rw [if_pos rfl, if_pos hin]
            rw [if_pos rfl, if_pos (by rw [List.length_take]; omega)] at hi
            exact hi
          · rw [if_neg e]
            rw [if_neg e, List.getElem?_take] at hi
            split at hi
            · simpa using hi
            · cases hi
        have HS := Lib.hid hsum
        have HL := Lib.hid hlast
        have HH := Lib.hid hheap
        have HM := hm
        have HB := Lib.hid (hbel.setCell (p := ⟨g, q * 2 + 1, none⟩) hbg (.float .f64 oneW))
        have HC := Lib.hid hcs
        clear hsum hlast hheap hm hown hrow htk hl hk2 hz hcs hgg hin
        go_wp2
        go_ret
        have e := HS.out
        refine ⟨_, rfl, ⟨HB.out.block, HB.out.size, HB.out.os, HB.out.tape, HB.out.output⟩, fun h => ?_, fun h => ?_⟩
        · rw [e] at h
          have := HM.out
          rw [h] at this; simp at this
        · rw [e, ← HM.out]
          exact ⟨g, _, rfl, hnc, _, by rw [Array.size_setIfInBounds, HC.out]; exact Nat.le_refl _, hbg, ⟨0, HH.out⟩, HL.out⟩
theorem steps_calls : StepsCalls Tryz.prog 70 157 := fun c j cap ps w h1 h2 h3 h4 h5 h6 => steps_any c j cap ps w h1 h2 h3 h4 h6 h5
end Go.Proofs.Sh
namespace Go.Proofs.Sh
open Go.RowKit Go.Ev
attribute [local go_sem] run_store_float run_flt_gtr
set_option maxRecDepth 100000 in
set_option maxHeartbeats 2000000 in
theorem share_any (s1 s2 : ByteArray) (c j cap : Nat) (qs : List (Value × Nat)) (u : Nat) (w : World) (hstr : ∀ p ∈ qs, ∃ s, p.1 = .string s) (hcap : qs.length ≤ cap) (hlen : qs.length ≤ 65536)
    (hcells : ∀ (i : Nat) (v : Value), (shareCells qs)[i]? = some v → w.cell? ⟨c, j + i, none⟩ = some v) (hc : c < w.heap.size)
    (q : Nat) (nm : ByteArray) (x : Nat) (hq : qs[q]? = some (.string nm, x)) (hx : gtF x u = true) (hno : ∀ (q' : Nat) (p : Value × Nat), q' < q → qs[q']? = some p → gtF p.2 u = false) :
    Calls Tryz.prog 25 #[.agg #[.string s1, .string s2, .slice (some ⟨c, j, none⟩) qs.length cap], .float .f64 u] w fun e w' => e = .returned (.string nm) ∧ OldKept w w' := by
  have hql : q < qs.length := (List.getElem?_eq_some_iff.1 hq).1
  have hne : ¬ (qs.length : Int) = 0 := by omega
  have HQ := Lib.hid hq
  have HN := Lib.hid hno
  have HC := Lib.hid hcells
  clear hq hno hcells
  go_enter Tryz.func25, Tryz.ntmps25
  go_wp2
  have hb0 : Below w.heap.size w (w.alloc (.cells #[.string s1, .string s2, .slice (some ⟨c, j, none⟩) qs.length cap] 95)) := (Below.refl _ w).alloc (Nat.le_refl _) _
  go_loopw [14] (fun i wr => ∃ (k : Nat), k ≤ q ∧ i = .int .i64 k ∧ Below w.heap.size w wr) (fun i _ => qs.length - (intOf i).toNat)
  case atStart => exact ⟨0, Nat.zero_le _, rfl, hb0⟩
  case round =>
    obtain ⟨k, hk, rfl, hbel⟩ := hrel
    have hlt : k < qs.length := by omega
    have hp := List.getElem?_eq_getElem hlt
    obtain ⟨s, hs⟩ := hstr qs[k] (List.getElem_mem hlt)
    obtain ⟨c1, c2⟩ := shareCells_get hp
    have d1 := (hbel.cell (p := ⟨c, j + 2 * k, none⟩) hc).trans (HC.out _ _ c1)
    have d2 := (hbel.cell (p := ⟨c, j + (2 * k + 1), none⟩) hc).trans (HC.out _ _ c2)
    rw [hs, Nat.mul_comm] at d1
    rw [Nat.mul_comm, ← Nat.add_assoc] at d2
    generalize hu : qs[k].2 = y at d2
    by_cases e : k = q
    · have hpq := HQ.out
      rw [← e, hp] at hpq
      have hpq := Option.some.inj hpq
      have hs' : s = nm := by
        have := congrArg Prod.fst hpq
        rw [hs] at this
        exact Value.string.inj this
      have hy : y = x := by rw [← hu, hpq]
      subst hs' hy
      have hgt : (FloatKind.f64.format.order y u == some Ordering.gt) = true := hx
      clear hp hs hpq c1 c2 hu e
      go_wp2
      all_goals go_ret
      all_goals exact ⟨rfl, (hbel.alloc hbel.size _).block, (hbel.alloc hbel.size _).size, hbel.os, hbel.tape, hbel.output⟩
    · have hgt : (FloatKind.f64.format.order y u == some Ordering.gt) = false := by
        have := HN.out k _ (by omega) hp
        rw [hu] at this; exact this
      have hk2 : k + 1 ≤ q := by omega
      clear hp hs c1 c2 hu
      go_wp2
      go_roundw
      case rel => exact ⟨k + 1, hk2, by go_num, hbel.alloc hbel.size _⟩
      case measure => simp [intOf]; omega
theorem share_calls : ShareCalls Tryz.prog 25 := fun s1 s2 c j cap qs u w h1 h2 h3 h4 h5 q nm x h6 h7 h8 => share_any s1 s2 c j cap qs u w h1 h2 h3 h4 h5 q nm x h6 h7 h8
end Go.Proofs.Sh
namespace Go.Ev.Aw
noncomputable section
open Go Go.Proofs
noncomputable def G2 : Cfg := cfg Tryz.prog [] [(599, .indexByte), (522, .indexByte), (593, .countByte), (554, .makeNoZero), (553, .same), (274, .mapsClone), (366, .cmpStr)] [(567, .strIndex), (379, .byteIndex), (4, .yes), (25, .share), (70, .steps 157)]
theorem g2_ok : G2.Ok := cfg_ok (by kernel_rfl) (by kernel_rfl)
theorem g2_ext : G2.ext = [(599, .indexByte), (522, .indexByte), (593, .countByte), (554, .makeNoZero), (553, .same), (274, .mapsClone), (366, .cmpStr)] := by kernel_rfl
theorem g2_ft : G2.ft = G.ft := rfl
theorem x366 : G2.ft.get 366 = some Tryz.f366 := by kernel_rfl
theorem ext_names2 : ExtNames G2 := by
  intro f fn x hf hb hx
  have hm := extOf_mem _ hx
  rw [g2_ext] at hm
  simp only [List.mem_cons, List.not_mem_nil, or_false, Prod.mk.injEq] at hm
  rcases hm with ⟨rfl, rfl⟩ | ⟨rfl, rfl⟩ | ⟨rfl, rfl⟩ | ⟨rfl, rfl⟩ | ⟨rfl, rfl⟩ | ⟨rfl, rfl⟩ | ⟨rfl, rfl⟩
  · rw [g2_ft, x599] at hf; cases hf; exact ⟨rfl, rfl, fun h => by cases h⟩
  · rw [g2_ft, x522] at hf; cases hf; exact ⟨rfl, rfl, fun h => by cases h⟩
  · rw [g2_ft, x593] at hf; cases hf; exact ⟨rfl, rfl, fun h => by cases h⟩
  · rw [g2_ft, x554] at hf; cases hf; exact ⟨rfl, rfl, fun _ => ⟨31, 5, rfl, by kernel_rfl⟩⟩
  · rw [g2_ft, x553] at hf; cases hf; exact ⟨rfl, rfl, fun h => by cases h⟩
  · rw [g2_ft, x274] at hf; cases hf; exact ⟨rfl, rfl, fun h => by cases h⟩
  · rw [x366] at hf; cases hf; exact ⟨rfl, rfl, fun h => by cases h⟩
theorem g2_sums : G2.sums = [(567, .strIndex), (379, .byteIndex), (4, .yes), (25, .share), (70, .steps 157)] := by kernel_rfl
theorem g2_prog : G2.P = Tryz.prog := by kernel_rfl
theorem y4 : G2.ft.get 4 = some Tryz.f4 := by kernel_rfl
theorem y25 : G2.ft.get 25 = some Tryz.f25 := by kernel_rfl
theorem y70 : G2.ft.get 70 = some Tryz.f70 := by kernel_rfl
theorem sum_lays2 : SumLays G2 := by
  intro f x hx
  have hm := sumOf_mem _ hx
  rw [g2_sums] at hm
  simp only [List.mem_cons, List.not_mem_nil, or_false, Prod.mk.injEq] at hm
  rw [g2_prog]
  rcases hm with ⟨rfl, rfl⟩ | ⟨rfl, rfl⟩ | ⟨rfl, rfl⟩ | ⟨rfl, rfl⟩ | ⟨rfl, rfl⟩
  · exact ⟨ren219, lays219, rfl, rfl⟩
  · exact ⟨ren185, lays185, rfl, rfl⟩
  · exact fun w h1 h2 h3 => awake_any w h1 h2 h3
  · exact Sh.share_calls
  · exact Sh.steps_calls
theorem ext_all2 : ExtOk G2 where
  ext := ext_ok g2_ok ext_names2
  sum := sum_ok sum_lays2
  there f x hx := by
    have hm := sumOf_mem _ hx
    rw [g2_sums] at hm
    simp only [List.mem_cons, List.not_mem_nil, or_false, Prod.mk.injEq] at hm
    rcases hm with ⟨rfl, rfl⟩ | ⟨rfl, rfl⟩ | ⟨rfl, rfl⟩ | ⟨rfl, rfl⟩ | ⟨rfl, rfl⟩
    · rw [g2_ft, y567]; simp
    · rw [g2_ft, y379]; simp
    · rw [y4]; simp
    · rw [y25]; simp
    · rw [y70]; simp
  apart f x fn hx hf := by
    have hm := sumOf_mem _ hx
    rw [g2_sums] at hm
    simp only [List.mem_cons, List.not_mem_nil, or_false, Prod.mk.injEq] at hm
    rcases hm with ⟨rfl, rfl⟩ | ⟨rfl, rfl⟩ | ⟨rfl, rfl⟩ | ⟨rfl, rfl⟩ | ⟨rfl, rfl⟩
    · rw [g2_ft, y567] at hf; cases hf; exact (by simp [Tryz.f567])
    · rw [g2_ft, y379] at hf; cases hf; exact (by simp [Tryz.f379])
    · rw [y4] at hf; cases hf; exact (by simp [Tryz.f4])
    · rw [y25] at hf; cases hf; exact (by simp [Tryz.f25])
    · rw [y70] at hf; cases hf; exact (by simp [Tryz.f70])
end
end Go.Ev.Aw
namespace Go.Ev.Aw
noncomputable section
open Go Go.Proofs
noncomputable def tp0 : Code := sub (bodyOf Tryz.f3) [0]
noncomputable def tp1 : Code := sub (bodyOf Tryz.f3) [1, 0]
noncomputable def tp2 : Code := sub (bodyOf Tryz.f3) [1, 1, 0]
noncomputable def tp3 : Code := sub (bodyOf Tryz.f3) [1, 1, 1, 0]
noncomputable def tp4 : Code := sub (bodyOf Tryz.f3) [1, 1, 1, 1, 0]
noncomputable def tp5 : Code := sub (bodyOf Tryz.f3) [1, 1, 1, 1, 1, 0]
noncomputable def tp6 : Code := sub (bodyOf Tryz.f3) [1, 1, 1, 1, 1, 1, 0]
noncomputable def tp7 : Code := sub (bodyOf Tryz.f3) [1, 1, 1, 1, 1, 1, 1, 0]
noncomputable def tp8 : Code := sub (bodyOf Tryz.f3) [1, 1, 1, 1, 1, 1, 1, 1, 0]
noncomputable def tp9 : Code := sub (bodyOf Tryz.f3) [1, 1, 1, 1, 1, 1, 1, 1, 1, 0]
noncomputable def tp10 : Code := sub (bodyOf Tryz.f3) [1, 1, 1, 1, 1, 1, 1, 1, 1, 1, 0]
noncomputable def tp11 : Code := sub (bodyOf Tryz.f3) [1, 1, 1, 1, 1, 1, 1, 1, 1, 1, 1, 0]
noncomputable def pcs : List Code := [tp0, tp1, tp2, tp3, tp4, tp5, tp6, tp7, tp8, tp9, tp10, tp11]
noncomputable def tR : Code := sub (bodyOf Tryz.f3) [1, 1, 1, 1, 1, 1, 1, 1, 1, 1, 1, 1]
theorem tb_eq : Tryz.f3.body = some (chain pcs tR) := by kernel_rfl
theorem y3 : G2.ft.get 3 = some Tryz.f3 := by kernel_rfl
def zF : AV := .flt .f64 0
def hF : AV := .flt .f64 4636737291354636288
def iN (n : Nat) : AV := .int .i64 (.ofNat n)
def sumA (i : Nat) : AV := match i with | 0 => iN 0 | i => .sym (60 + i)
def sumF (i : Nat) : AV := match i with | 0 => zF | i => .sym (20 + i)
def lawsIn (i : Nat) : List SR := [⟨.lss, .sym i, iN 0, .bool false⟩, ⟨.gtr, .sym i, iN 100, .bool false⟩]
def lawsAdd (i : Nat) : List SR := [⟨.add, sumA i, .sym i, .sym (61 + i)⟩, ⟨.add, .sym i, .undef, .sym (10 + i)⟩]
def lawsFl (i : Nat) : List SR := [⟨.geq, .sym (10 + i), zF, .bool true⟩, ⟨.leq, .sym (10 + i), hF, .bool true⟩, ⟨.add, sumF i, .sym (10 + i), .sym (21 + i)⟩,
  ⟨.quo, .sym (10 + i), hF, .sym (30 + i)⟩, ⟨.add, zF, .sym (30 + i), .sym (30 + i)⟩]
def partCells (n : Nat) : List AV := (List.range n).flatMap fun i => [.str [119, 48 + i], .sym (30 + i)]
def outCells (m : Nat) : List AV := (List.range m).flatMap fun j => [.sym (40 + j), .sym (50 + j)]
def lawsP (n m : Nat) : List SR := ((List.range n).flatMap fun i => lawsIn i ++ lawsAdd i ++ lawsFl i) ++
  [⟨.neq, sumA n, iN 100, .bool false⟩, ⟨.geq, sumF n, .flt .f64 4636737291287527424, .bool true⟩, ⟨.leq, sumF n, .flt .f64 4636737291421745152, .bool true⟩, ⟨.add, .agg (partCells n), .undef, .agg (outCells m)⟩]
def lawsE (j : Nat) (lo : Bool) : List SR := ((List.range j).flatMap fun i => lawsIn i ++ lawsAdd i) ++ ⟨.lss, .sym j, iN 0, .bool lo⟩ :: (match lo with | true => [] | false => [⟨.gtr, .sym j, iN 100, .bool true⟩])
def lawsS (n : Nat) : List SR := ((List.range n).flatMap fun i => lawsIn i ++ lawsAdd i) ++ [⟨.neq, sumA n, iN 100, .bool true⟩]
def blA (e n : Nat) (l : List SR) : List ABlk := [.dead, .dead, .dead, .dead, .dead, .dead, .dead, .dead, .dead, .syms l, .cells ((List.range n).map .sym) e .ro]
def tA (e n : Nat) (l : List SR) : BT ABlk := BT.ofList 11 (blA e n l)
def argA (n : Nat) : AV := .slc 10 0 n (.least n 1)
noncomputable def preK (e n : Nat) (l : List SR) (regs : List Nat) : Out := mergeK [] (tA e n l) 11 fun t k => (argsB Tryz.f3.ntmps (Tryz.f3.params.size + Tryz.f3.nfree) 0).f [argA n] (tr0 Tryz.f3.ntmps) fun tr =>
  runs G2 1000000 Tryz.f3.ntmps pcs tr ⟨t, k, [], 11⟩ (maskK Tryz.f3.ntmps regs)
def fl1 (n : Nat) : Fl := match n with | 1 => .plain | _ => .stringish
def hRow (n : Nat) : List AV := (List.range n).flatMap fun i => [.str [119, 48 + i], .slc (12 + i) 0 1 (.exact 1)]
def preB (n m : Nat) : List ABlk :=
  .cells (hRow n) 33 (fl1 n) :: (((List.range n).map fun i => .cells [.str [101, 119, 48 + i]] 9 .plain) ++
  [.cells [iN 1, .slc (13 + n) 0 1 (.least 1 4), .slc (16 + n) 0 n (.least n 1)] 41 .plain,
   .cells [.str [42], .str [114], .slc (14 + n) 0 1 (.least 1 3), .nils] 82 .plain,
   .cells [.str [42], .str [42], .slc (15 + n) 0 m (.least m 2)] 95 .plain,
   .cells (outCells m) 157 .plain,
   .cells ((List.range n).map fun i => .str [119, 48 + i]) 9 (fl1 n)])
def preT (n : Nat) : Tr := .node (.node (.node (.leaf (argA n)) q0 q0 q0 q0 q0 (.leaf (.slc 11 0 n (.least n 2))) q0) (.node q0 (.leaf (.ptr (12 + n) 0)) q0 q0 q0 q0 q0 q0) q1 q1 q1 q1 q1 q1) q2 q2 q2 q2 q2 q2 q2
def endT : Tr := .node (.node (.node q0 q0 (.leaf (.bool true)) q0 q0 q0 q0 q0) q1 q1 q1 q1 q1 q1 q1) q2 q2 q2 q2 q2 q2 q2
end
end Go.Ev.Aw
namespace Go.Ev.Aw
noncomputable section
open Go Go.Proofs
def lawsD (m i : Nat) : List SR := [⟨.sub, .agg (outCells m ++ [.sym 900]), .undef, .str [119, 48 + i]⟩, ⟨.add, .tup [.sym 901], iN 0, .sym 901⟩, ⟨.rem, .sym 901, iN 1, iN 0⟩]
def tV (n : Nat) : AV := .agg [iN 1, .slc (13 + n) 0 1 (.least 1 4), .slc (16 + n) 0 n (.least n 1)]
def hV (n : Nat) : AV := .slc 11 0 n (.least n 2)
def dV (i : Nat) : AV := .agg [iN 1, iN 0, .str [114], iN 0, .str [119, 48 + i], .str [101, 119, 48 + i]]
def nH : AH := ⟨.leaf, 0, [], 0⟩
noncomputable def decK (e n m i : Nat) : Out := mergeK ((preB n m).map ABlk.toRo) (tA e n (lawsD m i)) 11 fun t k =>
  callF G2 (run G2 1000000) 6 [tV n, hV n, .str [71, 69, 84], .str [97], .str [47], .sym 900, .sym 901] ⟨t, k, [], 11⟩ fun v _ => .val v nH
end
end Go.Ev.Aw
