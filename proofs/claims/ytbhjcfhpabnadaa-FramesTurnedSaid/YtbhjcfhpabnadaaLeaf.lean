/-
  The walks of turnpikelaw01's lent, of sum.number, of slices.Clone.
-/
import Derived.Test.YtbhjcfhpabnadaaMoreW
namespace Go.Proofs.Ytbhjcfhpabnadaa
open Go.RowKit

theorem Try.el22 : Elem Try.prog 22 5 1 1 := Elem.of (z := .int .u8 0) Try.underlying22 (by kernel_rfl) rfl (by decide)

theorem one2 (k1 k2 : IntKind) (x y : Int) : ∀ u ∈ (#[Value.int k1 x, .int k2 y] : Array Value).toList, u.oneCell' = true := by simp [Value.oneCell']

/-- What lent leaves: a row of its own, the bytes and two marks, of which the bytes are handed back. -/
def Lent (w : World) (xs : List UInt8) (e : Ending) (w' : World) : Prop :=
  ∃ g cap, e = .returned (.slice (some ⟨g, 0, none⟩) xs.length cap) ∧ Copy w' w.heap.size g cap xs ∧ Below w.heap.size w w'

set_option maxHeartbeats 400000 in
theorem lent_any (xs : List UInt8) (A : Option Addr) (c B : Nat) (w : World) (hx : Rd w B A (bv xs)) (hn : xs.length + 2 ≤ 140737488355328) :
    Calls Try.prog 17 #[.slice A xs.length c] w (Lent w xs) := by
  go_enter Try.func17, Try.ntmps17
  go_wp2_with (first
    | (at_builtin; refine wpList_app rfl (.tmp 4) (.tmp 5) 22 rfl w.heap.size 5 1 1 Try.el22 none 0 0 [] rfl (Own.nil_ _ _ _ _) B A xs.length c (bv xs) rfl hx (by simp [bv]) (bv_one xs) xs.length (bv xs) (by omega) rfl (by omega) (by unfold maxLen; omega) (Nat.le_refl _) ?_; intro A2 c2 w2 hown2 hg2 hat2)
    | (at_builtin; refine wpList_app_new rfl (.tmp 6) (.tmp 7) 22 rfl w.heap.size 5 1 1 Try.el22 A2 xs.length c2 _ rfl hown2 _ w2.heap.size 2 2 (by simp) rfl rfl (one2 _ _ _ _) (xs.length + 2) (bv (xs ++ [201, 202])) rfl (by rw [bv_append]; rfl) (by omega) (by unfold maxLen; omega) hg2.size ?_; intro A3 c3 w3 hown3 hg3 hat3; obtain ⟨g3, rfl, hge3, hlt3, hle3⟩ := hown3.form_pos (by omega))
    | fail)
  go_ret
  refine ⟨g3, c3, rfl, ⟨hle3, hown3⟩, ?_⟩
  exact below_own ((Below.refl _ _).grown hg2 (Nat.le_refl _) (by simp [blk])) hg3 hown2 hg2.size

/-- What Clone leaves: the same bytes in new memory. -/
def Cloned (w : World) (xs : List UInt8) (e : Ending) (w' : World) : Prop :=
  ∃ A cap, e = .returned (.slice A xs.length cap) ∧ Own w' w.heap.size 5 1 A xs.length cap (bv xs) ∧ Below w.heap.size w w'

theorem Own.made {w : World} {base e size : Nat} (h : base ≤ w.heap.size) : Own (w.alloc (.cells #[] e)) base e size (some ⟨w.heap.size, 0, none⟩) 0 0 [] :=
  World.ownsRow_made w #[] 0 h (Nat.zero_le _) (by simp)

theorem Rd.none_nil {w : World} {B : Nat} {xs : List UInt8} (h : Rd w B none (bv xs)) : xs = [] := by
  cases xs with
  | nil => rfl
  | cons b l =>
    obtain ⟨_, h, _⟩ := h.byte (k := 0) (by simp)
    cases h

set_option maxHeartbeats 400000 in
theorem clone_any (xs : List UInt8) (A : Option Addr) (c B : Nat) (w : World) (hx : Rd w B A (bv xs)) (hB : B ≤ w.heap.size) (hn : xs.length ≤ 140737488355328) :
    Calls Try.prog 53 #[.slice A xs.length c] w (Cloned w xs) := by
  have hnil := fun (W : World) => Lib.run_eql_slice_nil (P := Try.prog) W 22 5 A xs.length c 0 0 Try.underlying22
  cases A with
  | none =>
    have hx0 := hx.none_nil
    have HX := Lib.hid hx0
    clear hx0
    go_enter Try.func53, Try.ntmps53
    go_wp2
    go_ret
    refine ⟨none, 0, ?_, ?_, Below.refl _ _⟩
    · rw [HX.out]
      rfl
    · rw [HX.out]
      exact Own.nil_ _ _ _ _
  | some a =>
    go_enter Try.func53, Try.ntmps53
    go_wp2_with (first
      | (at_builtin; refine wpList_app rfl (.tmp 5) (.tmp 6) 22 rfl w.heap.size 5 1 1 Try.el22 _ 0 0 [] rfl (Own.made (Nat.le_refl _)) B (some a) xs.length c (bv xs) rfl (hx.alloc hB _) (by simp [bv]) (bv_one xs) xs.length (bv xs) (by omega) rfl (by omega) (by unfold maxLen; omega) (by simp) ?_; intro A2 c2 w2 hown2 hg2 hat2)
      | fail)
    go_ret
    exact ⟨A2, c2, rfl, hown2, below_own ((Below.refl _ _).alloc (Nat.le_refl _) _) hg2 (Own.made (size := 1) (Nat.le_refl _)) (by simp)⟩

def num4 (a b c d : UInt8) : Nat := a.toNat * 16777216 + b.toNat * 65536 + c.toNat * 256 + d.toNat

theorem num4_bits (a b c d : UInt8) : bits .or .u32 (bits .or .u32 (bits .or .u32 ((a.toNat : Int) % 4294967296 * 16777216 % 4294967296) ((b.toNat : Int) % 4294967296 * 65536 % 4294967296)) ((c.toNat : Int) % 4294967296 * 256 % 4294967296)) ((d.toNat : Int) % 4294967296) = ((num4 a b c d : Nat) : Int) := by
  have ua := u8_lt a
  have ub := u8_lt b
  have uc := u8_lt c
  have ud := u8_lt d
  have e1 : (a.toNat : Int) % 4294967296 * 16777216 % 4294967296 = ((a.toNat * 16777216 : Nat) : Int) := by omega
  have e2 : (b.toNat : Int) % 4294967296 * 65536 % 4294967296 = ((b.toNat * 65536 : Nat) : Int) := by omega
  have e3 : (c.toNat : Int) % 4294967296 * 256 % 4294967296 = ((c.toNat * 256 : Nat) : Int) := by omega
  have e4 : (d.toNat : Int) % 4294967296 = ((d.toNat : Nat) : Int) := by omega
  rw [e1, e2, e3, e4, u32_or_nat _ _ (by omega) (by omega), nat_join 24 _ _ (by omega) (by omega), u32_or_nat _ _ (by omega) (by omega), nat_join 16 _ _ (by omega) (by omega),
    u32_or_nat _ _ (by omega) (by omega), nat_join 8 _ _ (by omega) (by omega)]
  rfl

/-- Bytes that are read lie in one block. -/
theorem Rd.at_ {w : World} {B : Nat} {A : Option Addr} {xs : List UInt8} (h : Rd w B A (bv xs)) (hn : 0 < xs.length) :
    ∃ b o, A = some ⟨b, o, none⟩ ∧ b < B ∧ ∀ k (hk : k < xs.length), w.cell? ⟨b, o + k, none⟩ = some (.int .u8 (xs[k].toNat : Int)) := by
  obtain ⟨p, rfl, hb, h0⟩ := h.byte hn
  have hsp : p.spot = none := World.cell?_spot h0
  obtain ⟨b, o, sp⟩ := p
  simp only at hsp
  subst hsp
  refine ⟨b, o, rfl, hb, fun k hk => ?_⟩
  obtain ⟨q, hq, _, hc⟩ := h.byte hk
  injection hq with hq
  subst hq
  rw [Addr.add_lit] at hc
  exact hc

set_option maxHeartbeats 400000 in
theorem number_any (a b c d : UInt8) (xs : List UInt8) (A : Option Addr) (n k B : Nat) (w : World) (hx : Rd w B A (bv (a :: b :: c :: d :: xs))) (hn : n = xs.length + 4) :
    Calls Try.prog 52 #[.slice A n k] w fun e w' => e = .returned (.int .u32 (num4 a b c d : Nat)) ∧ ∃ m, w' = w.drewN m := by
  obtain ⟨g, o, rfl, _, hc⟩ := hx.at_ (by simp)
  have h0 := hc 0 (by simp)
  have h1 := hc 1 (by simp)
  have h2 := hc 2 (by simp)
  have h3 := hc 3 (by simp)
  simp only [List.getElem_cons_zero, List.getElem_cons_succ, Nat.add_zero] at h0 h1 h2 h3
  have l1 : (1 : Int) < (n : Int) := by omega
  have l2 : (2 : Int) < (n : Int) := by omega
  have l3 : (3 : Int) < (n : Int) := by omega
  have l0 : 0 < n := by omega
  clear hn hx hc
  go_enter Try.func52, Try.ntmps52
  go_wp2_with fail
  go_quiet (fail)
  go_wp2
  go_ret
  exact ⟨ret_int (num4_bits a b c d), nq, rfl⟩

end Go.Proofs.Ytbhjcfhpabnadaa
