/-
  The walks of script.Each, of the function that it answers and of that one's inner one.
-/
import Derived.Test.YtpafimjdlbnckaaRange
import Derived.Test.YtpafimjdlbnckaaDecS
import Derived.Test.YtpafimjdlbnckaaLeaf
import Derived.Test.YtpafimjdlbnckaaLent
import Derived.RangeFuncNested
import Derived.RangeFuncBound
import Derived.Shelf.Abstract
import Derived.Shelf.RegionOpen
import Derived.OwnWalkIn
import Derived.TacticsInMore
import Derived.LoopNIn
import Derived.LoopIn
namespace Go.Proofs.Ytpafimjdlbnckaa
open Go.RowKit Go.Shelf

attribute [local go_sem] Oper.semAt_some

/-- What the inner function leaves: the byte at the place, the place one further (not beyond the end); all else lies. -/
def NextP (w : World) (Ba : Nat) (b : List UInt8) (n p : Nat) (e : Ending) (w' : World) : Prop :=
  e = .returned (.int .i64 (gb b p : Nat)) ∧ w.grownBy w' (some Ba) ∧ Boxed w' Ba 3 (.int .i64 (min (p + 1) n : Nat))

theorem ret_int {k : IntKind} {a b : Int} (h : a = b) : Ending.returned (.int k a) = .returned (.int k b) := by rw [h]

set_option maxHeartbeats 400000 in
theorem next_any (b : List UInt8) (n p : Nat) (hn : n = b.length) (hp : p ≤ n) (hl : n ≤ 16777216) (A : Option Addr) (c Ba Bx B : Nat) (w : World) (ha : Boxed w Ba 3 (.int .i64 p)) (hx : Boxed w Bx 24 (.slice A n c)) (hr : Rd w B A (bv b)) :
    Calls Try.prog 25 #[.pointer (some ⟨Ba, 0, none⟩), .pointer (some ⟨Bx, 0, none⟩)] w (NextP w Ba b n p) := by
  have ca := ha.cell
  have fa := ha.frozen
  have cx := hx.cell
  by_cases hlt : p < n
  · obtain ⟨a, rfl, _, hc⟩ := hr.byte (k := p) (show p < b.length by omega)
    have hpb : p < b.length := by omega
    obtain ⟨y, hy⟩ : ∃ y, y = b[p] := ⟨_, rfl⟩
    have hg : ((gb b p : Nat) : Int) = (y.toNat : Int) := by rw [gb_in hpb, hy]
    rw [← hy] at hc
    have HG := Lib.hid hg
    have hub : y.toNat < 256 := y.toNat_lt
    have HB := Lib.hid (show Boxed (w.setCell ⟨Ba, 0, none⟩ (.int .i64 ((p : Int) + 1))) Ba 3 (.int .i64 (min (p + 1) n : Nat)) by
      rw [show ((min (p + 1) n : Nat) : Int) = (p : Int) + 1 by omega]
      exact Boxed.set _ ha)
    clear hn hg hr hx hy hpb
    go_enter Try.func25, Try.ntmps25
    go_wp2
    go_ret
    exact ⟨ret_int HG.out.symm, grownBy_setCell' w Ba _, HB.out⟩
  · have hg : ((gb b p : Nat) : Int) = 0 := by rw [gb_out (by omega)]; rfl
    have HG := Lib.hid hg
    have HB := Lib.hid (show Boxed w Ba 3 (.int .i64 (min (p + 1) n : Nat)) by
      rw [show ((min (p + 1) n : Nat) : Int) = (p : Int) by omega]
      exact ha)
    clear hn hg hr hx
    go_enter Try.func25, Try.ntmps25
    go_wp2
    go_ret
    exact ⟨ret_int HG.out.symm, World.grownBy.refl w _, HB.out⟩

/-- A step that is handed over: its place, where its data lie, the step. -/
structure El where
  k : Nat
  A : Option Addr
  c : Nat
  s : St
def El.g (x : El) : Nat × St := (x.k, x.s)
def El.sv (x : El) : Value := .agg #[.int .i64 x.s.op, .int .i64 x.s.a, .int .i64 x.s.b, .slice x.A x.s.data.length x.c]
def El.cs (x : El) : List Value := [.int .i64 x.s.op, .int .i64 x.s.a, .int .i64 x.s.b, .slice x.A x.s.data.length x.c]
def El.encs (x : El) : Array Value := #[.int .i64 x.k, x.sv]

def StepR (Ba : Nat) (b : List UInt8) (pre : List El) (x : El) (W1 W2 : World) : Prop :=
  Go.Proofs.Ytpafimjdlbnckaa.Own W2 (max W1.heap.size (Ba + 1)) 5 1 x.A x.s.data.length x.c (bv x.s.data) ∧ ∃ rest, decR 0 b = pre.map El.g ++ x.g :: rest
def StepT (Ba : Nat) (W1 W2 : World) : Prop := W1.grownBy W2 (some Ba)
def AllS (b : List UInt8) (xs : List El) : Prop := xs.map El.g = decR 0 b
def KeptM (n₀ Bx Ba : Nat) (k : Nat) : Prop := k < n₀ ∨ k = Bx ∨ k = Ba
def Linked (b : List UInt8) (k : Nat) (pre : List El) : Prop := decR 0 b = pre.map El.g ++ decR k (b.drop k)

theorem Kp.rd {M : Nat → Prop} {W W' : World} {n : Nat} {A : Option Addr} {xs : List Value} (h : Kp M W W') (hr : Rd W n A xs) (hm : ∀ k, k < n → M k) (hn : n ≤ W.heap.size) : Rd W' n A xs :=
  hr.below (h.below hm hn)
theorem Kp.boxed {M : Nat → Prop} {W W' : World} {B : Nat} {t : TypeId} {v : Value} (h : Kp M W W') (hb : Boxed W B t v) (hm : M B) : Boxed W' B t v :=
  (h.block B hm hb.lt).trans hb
theorem Boxed.low {W W' : World} {B : Nat} {t : TypeId} {v : Value} (h : Boxed W B t v) (hb : Below W.heap.size W W') : Boxed W' B t v :=
  (hb.block B h.lt).trans h
theorem gr_trans {a b c : World} {row : Option Nat} (h : a.grownBy b row) (k : b.grownBy c row) : a.grownBy c row := h.trans k
theorem gr_below {a b : World} {Ba : Nat} (h : Below a.heap.size a b) : a.grownBy b (some Ba) := ⟨h.os, h.tape, h.output, h.size, fun k hk _ => h.block k hk⟩
theorem gr_rd {a b : World} {Ba n : Nat} {A : Option Addr} {xs : List Value} (h : a.grownBy b (some Ba)) (hr : Rd a n A xs) (hn : n ≤ Ba) (hs : n ≤ a.heap.size) : Rd b n A xs :=
  hr.below ((Below.refl n a).grown h hs fun k e => by cases e; exact hn)
theorem gr_boxed {a b : World} {Ba B : Nat} {t : TypeId} {v : Value} (h : a.grownBy b (some Ba)) (hb : Boxed a B t v) (hne : B ≠ Ba) : Boxed b B t v := hb.kept h (by simpa using hne)
theorem gr_own {a b : World} {Ba base e size n c : Nat} {A : Option Addr} {xs : List Value} (h : a.grownBy b (some Ba)) (ho : Go.Proofs.Ytpafimjdlbnckaa.Own a base e size A n c xs) (hlt : Ba < base) : Go.Proofs.Ytpafimjdlbnckaa.Own b base e size A n c xs :=
  ho.kept h (.inr (ho.blk_low hlt))

theorem link_of {b : List UInt8} {k m : Nat} {pre : List El} {x : El} (h : Linked b k pre) (hk : k < b.length) (hx : x.k = k) (hs : x.s = stepL (b.drop k)) (hm : m = min (k + used (b.drop k)) b.length) : Linked b m (pre ++ [x]) := by
  have hne : b.drop k ≠ [] := by
    intro e
    have := congrArg List.length e
    simp at this
    omega
  unfold Linked at *
  rw [h, decR_cons hne, List.drop_drop]
  have hd : b.drop (k + used (b.drop k)) = b.drop m := by
    rcases Nat.le_total (k + used (b.drop k)) b.length with h | h
    · rw [hm, Nat.min_eq_left h]
    · rw [hm, Nat.min_eq_right h, List.drop_of_length_le h, List.drop_of_length_le (Nat.le_refl _)]
  rw [hd]
  have hr : decR (k + used (b.drop k)) (b.drop m) = decR m (b.drop m) := by
    rcases Nat.le_total (k + used (b.drop k)) b.length with h | h
    · rw [hm, Nat.min_eq_left h]
    · rw [hm, Nat.min_eq_right h, List.drop_of_length_le (Nat.le_refl _)]
      rfl
  rw [hr]
  simp [El.g, hx, hs]
theorem rec_of {Ba : Nat} {b : List UInt8} {k : Nat} {pre : List El} {x : El} {W1 W2 : World} (h : Linked b k pre) (hk : k < b.length) (hx : x.k = k) (hs : x.s = stepL (b.drop k)) (ho : Go.Proofs.Ytpafimjdlbnckaa.Own W2 (max W1.heap.size (Ba + 1)) 5 1 x.A x.s.data.length x.c (bv x.s.data)) : StepR Ba b pre x W1 W2 := by
  have hne : b.drop k ≠ [] := by
    intro e
    have := congrArg List.length e
    simp at this
    omega
  refine ⟨ho, decR (k + used (b.drop k)) ((b.drop k).drop (used (b.drop k))), ?_⟩
  rw [h, decR_cons hne]
  simp [El.g, hx, hs]

end Go.Proofs.Ytpafimjdlbnckaa
