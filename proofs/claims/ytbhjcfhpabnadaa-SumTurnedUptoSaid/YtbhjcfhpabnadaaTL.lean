/-
  What SumTurned's loop does to the bytes.
-/
import Derived.Test.YtbhjcfhpabnadaaCut
import Derived.Test.YtbhjcfhpabnadaaBurst
namespace Go.Proofs.Ytbhjcfhpabnadaa
open Go.RowKit

theorem grownBy_set (W : World) (p : Addr) (v : Value) : W.grownBy (W.setCell p v) (some p.block) :=
  ⟨rfl, rfl, rfl, by simp [World.setCell], fun k _ hk => Below.heap_setCell _ _ _ _ (fun e => hk (by rw [e]))⟩
theorem Own.setOther {w : World} {base e size n c base' e' size' n' c' g k : Nat} {A : Option Addr} {xs xs' : List Value} (h : Own w base e size A n c xs) (h' : Own w base' e' size' (some ⟨g, 0, none⟩) n' c' xs') (hne : e ≠ e') (u : Value) :
    Own (w.setCell ⟨g, k, none⟩ u) base e size A n c xs := h.kept (grownBy_set w _ u) (h.ne_ h' hne)

/-- The round of two numbers, n a positive cast. -/
theorem round_pos (a : Int) (n : Nat) (w : World) (hn : 0 < n) (hn2 : n ≤ 9223372036854775807) :
    Calls Try.prog 31 #[.int .i64 a, .int .i64 n] w fun e w' => (∃ k : Nat, k < n ∧ e = .returned (.int .i64 k)) ∧ w = w' := round_any a n w hn hn2

/-- How the bytes lie when t bits have been looked at. -/
def TurnAt (pre R0 post : List UInt8) (f turns t : Nat) (bs : List UInt8) (tb : Bool) : Prop :=
  ∃ R, bs = pre ++ R ++ post ∧ R.length = R0.length ∧ V R = V R0 ^^^ 2 ^ f * (turns % 2 ^ t) ∧ tb = decide (turns % 2 ^ t ≠ 0) ∧ (f < 32 → f + t ≤ 32) ∧ f + t ≤ 8 * R0.length

theorem turn_step {pre R0 post bs : List UInt8} {f turns t fr : Nat} {tb : Bool} (h : TurnAt pre R0 post f turns t bs tb) (hfr : pre.length = fr) (hlt : f + t < 8 * R0.length) (hnb : ¬ (f < 32 ∧ 32 ≤ f + t)) :
    ∃ bx, bs[fr + (f + t) / 8]? = some bx ∧ (turns / 2 ^ t % 2 = 1 → TurnAt pre R0 post f turns (t + 1) (bs.set (fr + (f + t) / 8) (turnB bx ((f + t) % 8))) true) ∧ (turns / 2 ^ t % 2 = 0 → TurnAt pre R0 post f turns (t + 1) bs tb) := by
  obtain ⟨R, hbs, hRl, hV, htb, h1, h2⟩ := h
  have hj : (f + t) / 8 < R.length := by omega
  have hmod : turns % 2 ^ (t + 1) = turns % 2 ^ t + 2 ^ t * (turns / 2 ^ t % 2) := Nat.mod_pow_succ
  refine ⟨R[(f + t) / 8], ?_, fun hb => ⟨R.set ((f + t) / 8) (turnB R[(f + t) / 8] ((f + t) % 8)), ?_, by simp [hRl], ?_, ?_, fun hf => by omega, by omega⟩, fun hb => ⟨R, hbs, hRl, ?_, ?_, fun hf => by omega, by omega⟩⟩
  · rw [hbs, List.append_assoc, List.getElem?_append_right (by omega), List.getElem?_append_left (by omega), show fr + (f + t) / 8 - pre.length = (f + t) / 8 by omega]
    exact List.getElem?_eq_getElem hj
  · rw [hbs, List.append_assoc, List.set_append_right _ _ (by omega), List.set_append_left _ _ (by omega), show fr + (f + t) / 8 - pre.length = (f + t) / 8 by omega, List.append_assoc]
  · rw [V_turn R _ _ hj (Nat.mod_lt _ (by omega)), hV, hmod, hb, show 8 * ((f + t) / 8) + (f + t) % 8 = f + t by omega, Nat.mul_one, Nat.xor_assoc, Nat.pow_add]
    have := xor_add (a := turns % 2 ^ t) (k := t) 1 (Nat.mod_lt _ (Nat.two_pow_pos t))
    rw [Nat.mul_one] at this
    rw [← this, mul_xor]
  · rw [hmod, hb]
    have := Nat.two_pow_pos t
    exact (decide_eq_true (by omega)).symm
  · rw [hV, hmod, hb, Nat.mul_zero, Nat.add_zero]
  · rw [htb, hmod, hb, Nat.mul_zero, Nat.add_zero]

theorem turn_end {G : List (List UInt8)} {p pre R0 post bs : List UInt8} {k f turns t : Nat} (hok : ∀ p ∈ G, p.length ≤ 131072) (hp : p.length ≤ 131072) (hpre : pre = catF (G.take k) ++ be4 p.length) (hR0 : R0 = be4 (more 0 (be4 p.length ++ p)) ++ p)
    (hf : f < 8 * R0.length) (hturns : turns < 4294967296) (h : TurnAt pre R0 post f turns t bs true) : bs.length = pre.length + R0.length + post.length ∧ scanR 0 bs = ends 0 (G.take k) := by
  obtain ⟨R, hbs, hRl, hV, htb, h1, h2⟩ := h
  have hR0l : R0.length = 4 + p.length := by rw [hR0, List.length_append, be4_len]
  refine ⟨by rw [hbs, List.length_append, List.length_append, hRl], ?_⟩
  rw [hbs, hpre, List.append_assoc, List.append_assoc]
  refine scan_tail (fun q hq => hok q (List.mem_of_mem_take hq)) ?_
  rw [← List.append_assoc]
  have h0 : turns % 2 ^ t ≠ 0 := of_decide_eq_true htb.symm
  have hle : turns % 2 ^ t ≤ turns := Nat.mod_le _ _
  refine torn_turned (f := f) (u := turns % 2 ^ t) hp (by rw [hRl, hR0l]) (by rw [hV, hR0]) h0 (by omega) (by omega) fun hf32 => ?_
  have h3 := h1 hf32
  have h4 : turns % 2 ^ t < 2 ^ t := Nat.mod_lt _ (Nat.two_pow_pos t)
  have h5 : 2 ^ f * (turns % 2 ^ t) < 2 ^ f * 2 ^ t := (Nat.mul_lt_mul_left (Nat.two_pow_pos f)).2 h4
  rw [← Nat.pow_add] at h5
  exact Nat.lt_of_lt_of_le h5 (Nat.pow_le_pow_right (by omega) h3)

theorem bit_and (turns t : Nat) (h : turns < 4294967296) : bits .and .u32 ((turns : Int) / 2 ^ t) 1 = ((turns / 2 ^ t % 2 : Nat) : Int) := by
  have h1 : turns / 2 ^ t < 4294967296 := Nat.lt_of_le_of_lt (Nat.div_le_self _ _) h
  have := u32_and_nat (turns / 2 ^ t) 1 h1 (by omega)
  rw [Nat.and_one_is_mod] at this
  simpa using this
theorem bit_xor (b : UInt8) {i : Nat} (h : i < 8) : bits .xor .u8 (b.toNat : Int) (2 ^ i % 256) = ((turnB b i).toNat : Int) := by
  have hp : 2 ^ i < 256 := Nat.pow_lt_pow_right (a := 2) (by omega) (n := 8) h
  have := u8_xor_nat b.toNat (2 ^ i) (u8_lt b) hp
  rw [turnB_val b h, ← this, show (2 : Int) ^ i % 256 = ((2 ^ i : Nat) : Int) by
    rw [show (2 : Int) ^ i = ((2 ^ i : Nat) : Int) by simp, show (256 : Int) = ((256 : Nat) : Int) from rfl, ← Int.natCast_emod, Nat.mod_eq_of_lt hp]]

end Go.Proofs.Ytbhjcfhpabnadaa
