/-
  More plain words: bytes by number, new blocks, rows of structs, append inside a region that draws its order. No program in sight.
-/
import Derived.Test.YtbhjcfhpabnadaaRow
import Derived.Deep.RegionLaw
import Derived.Deep.RegionHeld3
namespace Go.Proofs.Ytbhjcfhpabnadaa
open Go.RowKit

def u8 (z : Int) : UInt8 := UInt8.ofNat z.toNat
theorem u8_val {z : Int} (h0 : 0 ≤ z) (h1 : z ≤ 255) : ((u8 z).toNat : Int) = z := by
  unfold u8
  rw [UInt8.toNat_ofNat_of_lt' (by simp [UInt8.size]; omega)]
  omega

/-- A block that has just been laid. -/
theorem new_rd (w : World) (cs : Array Value) (e B : Nat) (h : w.heap.size < B) : Rd (w.alloc (.cells cs e)) B (some ⟨w.heap.size, 0, none⟩) cs.toList := by
  intro j u hu
  refine ⟨_, rfl, h, ?_⟩
  rw [Addr.add_lit, Nat.zero_add, World.cell?_alloc_new]
  simpa using hu

/-- A cell of the call's own, far from the row that grew. -/
theorem grown_cell {w w' : World} {row : Option Nat} (hg : w.grownBy w' row) {p : Addr} {v : Value} (h : w.cell? p = some v) (hne : row ≠ some p.block) : w'.cell? p = some v :=
  hg.cell h (fun e => hne e.symm)

/-- At element j (of sz cells each) of the cells zs stand vs. -/
def Grp (zs : List Value) (sz j : Nat) (vs : List Value) : Prop := ∀ i u, vs[i]? = some u → zs[j * sz + i]? = some u

theorem Grp.left {zs ys : List Value} {sz j : Nat} {vs : List Value} (h : Grp zs sz j vs) : Grp (zs ++ ys) sz j vs := fun i u hu => by
  have h1 := h i u hu
  rw [List.getElem?_append_left (List.getElem?_eq_some_iff.1 h1).1]
  exact h1
theorem Grp.new {zs vs : List Value} {sz j : Nat} (h : zs.length = j * sz) : Grp (zs ++ vs) sz j vs := fun i u hu => by
  rw [List.getElem?_append_right (by omega)]
  rw [show j * sz + i - zs.length = i by omega]
  exact hu

theorem Own.grp {w : World} {base e sz n c j g : Nat} {zs vs : List Value} (h : Own w base e sz (some ⟨g, 0, none⟩) n c zs) (hg : Grp zs sz j vs) (i : Nat) (u : Value) (hu : vs[i]? = some u) :
    w.cell? ⟨g, j * sz + i, none⟩ = some u := by
  obtain ⟨a, ha, _, hc⟩ := h.rd _ u (hg i u hu)
  injection ha with ha
  subst ha
  simpa [Addr.add_lit] using hc

/-- What the call owns stays while a row of another element type grows. -/
theorem Own.other {w w' : World} {base e size n c base' e' size' n' c' : Nat} {A A' : Option Addr} {xs xs' : List Value} (h : Own w base e size A n c xs) (h' : Own w base' e' size' A' n' c' xs') (hne : e ≠ e') (hg : w.grownBy w' (blk A')) :
    Own w' base e size A n c xs := h.kept hg (h.ne_ h' hne)

/-- A copy that lent has made: the bytes, two marks behind them. -/
def Copy (w : World) (base g cap : Nat) (xs : List UInt8) : Prop := xs.length + 2 ≤ cap ∧ Own w base 5 1 (some ⟨g, 0, none⟩) (xs.length + 2) cap (bv (xs ++ [201, 202]))

theorem Copy.rd {w : World} {base g cap : Nat} {xs : List UInt8} (h : Copy w base g cap xs) : Rd w w.heap.size (some ⟨g, 0, none⟩) (bv xs) := by
  have := h.2.rd.take xs.length
  simpa [bv, List.take_append_of_le_length] using this

theorem Own.blk_low {w : World} {base e size n c p : Nat} {A : Option Addr} {xs : List Value} (h : Own w base e size A n c xs) (hp : p < base) : blk A ≠ some p := fun he => by
  have := (h.blk_ge he).1
  omega

/-- append at a step of a region that draws its order. -/
theorem step_app {P : Program} {w : World} {ops : Array Oper} {o : Oper} {a : Act} {K : Act → World → Prop} {Q : Exit → Act → World → Prop} {E : Prop} (hgd : o.guard = none) (s x : Operand) (t : TypeId)
    (ho : o.op = .call { callee := .builtin .append, args := #[s, x], argTypes := #[t, t] })
    (base e size bytes : Nat) (el : Elem P t e size bytes) (A : Option Addr) (n c : Nat) (xs : List Value) (hs : a.eval s = .slice A n c) (hown : Own w base e size A n c xs)
    (B : Nat) (S : Option Addr) (m k : Nat) (news : List Value) (hx : a.eval x = .slice S m k) (hr : Rd w B S news) (hl : news.length = m * size) (h1 : ∀ u ∈ news, u.oneCell' = true)
    (N : Nat) (zs : List Value) (hN : n + m = N) (hzs : xs ++ news = zs)
    (hbytes : N * bytes ≤ 140737488355328) (h63 : N ≤ maxLen) (hbase : base ≤ w.heap.size)
    (h : ∀ A' c' w', Own w' base e size A' N c' zs → w.grownBy w' (blk A) → (blk A' = blk A ∨ blk A' = some w.heap.size) → K (a.put o.dst (.slice A' N c')) w') :
    if Region.wanted o (yielded ops a.tmps) = true then Oper.wp P o a w K Q else E := by
  have hw : Region.wanted o (yielded ops a.tmps) = true := by simp [Region.wanted, hgd]
  rw [if_pos hw]
  subst hN hzs
  obtain ⟨A', c', w', hrun, h2, h3, h4⟩ := run_app (P := P) w base t o.type e size bytes el A n c xs hown B S m k news hr hl h1 hbytes h63 hbase
  unfold Oper.wp execOp
  simp only [ho, resolve, invoke, builtin, Sem.run_bind, Sem.run_pure, Result.andThen_ok, List.map_toArray, List.map_cons, List.map_nil, hs, hx, hrun]
  exact h A' c' w' h2 h3 h4

/-- A box is laid, a call makes memory, the box is written. -/
theorem box_below {wr w1 : World} {o : Obj} {p : Addr} (u : Value) (hb1 : Below (wr.alloc o).heap.size (wr.alloc o) w1) (hp : wr.heap.size ≤ p.block) : Below wr.heap.size wr (w1.setCell p u) :=
  (((Below.refl _ _).alloc (Nat.le_refl _) o).trans (hb1.mono (by simp))).setCell hp u


end Go.Proofs.Ytbhjcfhpabnadaa
