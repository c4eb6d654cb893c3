/-
  A record in which bits within 32 side by side were turned begins no record. No program in sight.
-/
import Derived.Test.YtbhjcfhpabnadaaFramedS
namespace Go.Proofs.Ytbhjcfhpabnadaa
open Go.RowKit

theorem mul_xor (k x y : Nat) : 2 ^ k * (x ^^^ y) = 2 ^ k * x ^^^ 2 ^ k * y := by
  refine Nat.eq_of_testBit_eq fun j => ?_
  simp only [Nat.testBit_two_pow_mul, Nat.testBit_xor]
  cases decide (j ≥ k) <;> simp

theorem xor_add {a k : Nat} (y : Nat) (h : a < 2 ^ k) : a ^^^ 2 ^ k * y = a + 2 ^ k * y := by
  refine Nat.eq_of_testBit_eq fun j => ?_
  rw [Nat.add_comm a, Nat.testBit_two_pow_mul_add _ h, Nat.testBit_xor, Nat.testBit_two_pow_mul]
  by_cases hj : j < k
  · rw [if_pos hj, decide_eq_false (by omega)]
    simp
  · rw [if_neg hj, decide_eq_true (by omega), Nat.testBit_lt_two_pow (Nat.lt_of_lt_of_le h (Nat.pow_le_pow_right (by omega) (by omega)))]
    simp

theorem st_two (x y : Nat) : st (x ^^^ 2 * y) = st x ^^^ y := by
  rw [st_xor]
  have h1 : 2 * y % 2 = 0 := by omega
  have h2 : 2 * y / 2 = y := by omega
  rw [h1, h2, Nat.xor_zero]
theorem it_two : ∀ (n x y : Nat), it n (x ^^^ 2 ^ n * y) = it n x ^^^ y
  | 0, x, y => by simp [it]
  | n + 1, x, y => by
    simp only [it]
    rw [show 2 ^ (n + 1) * y = 2 * (2 ^ n * y) by rw [Nat.pow_succ]; ac_rfl, st_two, it_two n]
theorem it_add : ∀ (a b c : Nat), it (a + b) c = it b (it a c)
  | 0, b, c => by simp [it]
  | a + 1, b, c => by
    rw [show a + 1 + b = (a + b) + 1 by omega]
    simp only [it]
    exact it_add a b _
theorem st_lin (x y : Nat) : st (x ^^^ y) = st x ^^^ st y := by
  rw [st_xor]
  have h1 : st (x ^^^ 1) = st x ^^^ 2197175160 := by
    have e1 : (x ^^^ 1) / 2 = x / 2 := by rw [xor_div2]; simp
    have e2 : (x ^^^ 1) % 2 = (x % 2) ^^^ 1 := xor_mod2 x 1
    unfold st
    rw [e1, e2]
    rcases Nat.mod_two_eq_zero_or_one x with h | h
    · rw [h]; simp
    · rw [h]; simp [Nat.xor_assoc]
  rcases Nat.mod_two_eq_zero_or_one y with h | h
  · rw [h, Nat.xor_zero]
    have : st y = y / 2 := by unfold st; rw [h]; simp
    rw [this]
  · rw [h, h1]
    have : st y = y / 2 ^^^ 2197175160 := by unfold st; rw [h]; simp
    rw [this]
    ac_rfl
theorem it_lin : ∀ (n x y : Nat), it n (x ^^^ y) = it n x ^^^ it n y
  | 0, _, _ => rfl
  | n + 1, x, y => by
    simp only [it]
    rw [st_lin, it_lin n]
theorem it_zero : ∀ n, it n 0 = 0
  | 0 => rfl
  | n + 1 => by
    simp only [it]
    exact it_zero n
theorem st_ne {c : Nat} (h : c < 4294967296) (h0 : c ≠ 0) : st c ≠ 0 := by
  unfold st
  split
  · intro e
    have e2 := congrArg (· ^^^ 2197175160) e
    simp only [xor_self_cancel, Nat.zero_xor] at e2
    omega
  · rw [Nat.xor_zero]
    omega
theorem it_ne : ∀ (n : Nat) {c : Nat}, c < 4294967296 → c ≠ 0 → it n c ≠ 0
  | 0, _, _, h0 => h0
  | n + 1, _, h, h0 => it_ne n (st_lt h) (st_ne h h0)

/-- Bytes as one number, the first byte lowest. -/
def V : List UInt8 → Nat
  | [] => 0
  | b :: r => b.toNat + 2 ^ 8 * V r
theorem V_cons (b : UInt8) (r : List UInt8) : V (b :: r) = b.toNat ^^^ 2 ^ 8 * V r := (xor_add _ (by have := u8_lt b; omega)).symm
theorem raw_V : ∀ (p : List UInt8) (c : Nat), raw c p = it (8 * p.length) (c ^^^ V p)
  | [], c => by simp [raw, it, V]
  | b :: r, c => by
    have h := raw_V r (stB c b)
    show raw (stB c b) r = _
    rw [h, V_cons, List.length_cons, show 8 * (r.length + 1) = 8 + 8 * r.length by omega, it_add, ← Nat.xor_assoc, it_two]
    rfl
theorem V_append : ∀ (a b : List UInt8), V (a ++ b) = V a + 2 ^ (8 * a.length) * V b
  | [], b => by simp [V]
  | x :: a, b => by
    simp only [List.cons_append, V, V_append a b, List.length_cons]
    rw [show 8 * (a.length + 1) = 8 + 8 * a.length by omega, Nat.pow_add, Nat.mul_add, Nat.mul_assoc]
    omega
theorem V_lt : ∀ (a : List UInt8), V a < 2 ^ (8 * a.length)
  | [] => by simp [V]
  | x :: a => by
    have := V_lt a
    have hx := u8_lt x
    simp only [V, List.length_cons]
    rw [show 8 * (a.length + 1) = 8 + 8 * a.length by omega, Nat.pow_add]
    have h2 := Nat.mul_le_mul_left (2 ^ 8) (show V a + 1 ≤ 2 ^ (8 * a.length) by omega)
    omega
theorem V_inj : ∀ {a b : List UInt8}, a.length = b.length → V a = V b → a = b
  | [], [], _, _ => rfl
  | [], _ :: _, h, _ => by simp at h
  | _ :: _, [], h, _ => by simp at h
  | x :: a, y :: b, h, hv => by
    have hx := u8_lt x
    have hy := u8_lt y
    simp only [V] at hv
    have h1 : x.toNat = y.toNat := by omega
    have h2 : V a = V b := by omega
    rw [UInt8.toNat_inj.1 h1, V_inj (by simpa using h) h2]

/-- A byte's bit i turned. -/
def turnB (b : UInt8) (i : Nat) : UInt8 := UInt8.ofNat (b.toNat ^^^ 2 ^ i)
theorem turnB_val (b : UInt8) {i : Nat} (h : i < 8) : (turnB b i).toNat = b.toNat ^^^ 2 ^ i := by
  have h2 : b.toNat ^^^ 2 ^ i < 2 ^ 8 := Nat.xor_lt_two_pow (by have := u8_lt b; omega) (Nat.pow_lt_pow_right (by omega) h)
  unfold turnB
  rw [UInt8.toNat_ofNat_of_lt' (by simpa [UInt8.size] using h2)]
theorem V_turn : ∀ (l : List UInt8) (j i : Nat) (hj : j < l.length), i < 8 → V (l.set j (turnB l[j] i)) = V l ^^^ 2 ^ (8 * j + i)
  | [], _, _, h, _ => by simp at h
  | b :: r, 0, i, _, hi => by
    simp only [List.set_cons_zero, List.getElem_cons_zero, V_cons]
    rw [turnB_val b hi, Nat.mul_zero, Nat.zero_add]
    ac_rfl
  | b :: r, j + 1, i, h, hi => by
    simp only [List.set_cons_succ, List.getElem_cons_succ, V_cons]
    rw [V_turn r j i (by simpa using h) hi, mul_xor, ← Nat.pow_add, show 8 + (8 * j + i) = 8 * (j + 1) + i by omega, Nat.xor_assoc]

/-- Turned bits within 32 side by side make another sum. -/
theorem more_turned {p p' : List UInt8} {f u : Nat} (c : Nat) (hl : p'.length = p.length) (hf : f ≤ 8 * p.length) (hv : V p' = V p ^^^ 2 ^ f * u) (h0 : u ≠ 0) (hu : u < 4294967296) : more c p' ≠ more c p := by
  intro e
  unfold more at e
  have e2 : raw (c ^^^ 4294967295) p' = raw (c ^^^ 4294967295) p := by
    have := congrArg (· ^^^ 4294967295) e
    simpa [xor_self_cancel] using this
  rw [raw_V, raw_V, hl, hv, ← Nat.xor_assoc, it_lin (8 * p.length) ((c ^^^ 4294967295) ^^^ V p)] at e2
  have e3 : it (8 * p.length) (2 ^ f * u) = 0 := by
    have := congrArg (it (8 * p.length) ((c ^^^ 4294967295) ^^^ V p) ^^^ ·) e2
    simpa [← Nat.xor_assoc] using this
  have e4 : it (8 * p.length) (2 ^ f * u) = it (8 * p.length - f) u := by
    conv => lhs; rw [show 8 * p.length = f + (8 * p.length - f) by omega, it_add, show 2 ^ f * u = 0 ^^^ 2 ^ f * u by simp, it_two, it_zero]
    simp
  rw [e4] at e3
  exact it_ne _ hu h0 e3

/-- The sum and the payload of a record, some bits of one of the two turned: what stands there begins no record. -/
theorem torn_turned {p R post : List UInt8} {f u : Nat} (hp : p.length ≤ 131072) (hR : R.length = 4 + p.length) (hv : V R = V (be4 (more 0 (be4 p.length ++ p)) ++ p) ^^^ 2 ^ f * u) (h0 : u ≠ 0) (hu : u < 4294967296)
    (hf : f + 1 ≤ 8 * (4 + p.length)) (hlow : f < 32 → 2 ^ f * u < 2 ^ 32) : nextS (be4 p.length ++ R ++ post) = none := by
  obtain ⟨a, b, c, d, h1, h2⟩ := be4_form (n := p.length) (by omega)
  have hs := more_lt (c := 0) (be4 p.length ++ p) (by omega)
  obtain ⟨s, hse⟩ : ∃ s, s = more 0 (be4 p.length ++ p) := ⟨_, rfl⟩
  rw [← hse] at hv hs
  -- the two parts of R
  have hR4 : (R.take 4).length = 4 := by rw [List.length_take]; omega
  obtain ⟨x0, x1, x2, x3, hx⟩ := four_form (R.take 4) hR4
  obtain ⟨q, hq⟩ : ∃ q, q = R.drop 4 := ⟨_, rfl⟩
  have hql : q.length = p.length := by rw [hq, List.length_drop]; omega
  have hRq : R = [x0, x1, x2, x3] ++ q := by rw [← hx, hq, List.take_append_drop]
  obtain ⟨e0, e1, e2, e3, h3, h4⟩ := be4_form hs
  have l4 : ∀ (y0 y1 y2 y3 : UInt8), V [y0, y1, y2, y3] < 2 ^ 32 := fun y0 y1 y2 y3 => V_lt [y0, y1, y2, y3]
  rw [hRq, h3, V_append, V_append] at hv
  simp only [List.length_cons, List.length_nil] at hv
  have hform : be4 p.length ++ R ++ post = a :: b :: c :: d :: x0 :: x1 :: x2 :: x3 :: (q ++ post) := by
    rw [h1, hRq]
    simp
  rw [hform]
  simp only [nextS]
  rw [h2, if_neg]
  rintro ⟨_, _, hsum⟩
  rw [← hql, List.take_left, ← h1] at hsum
  by_cases h32 : f < 32
  · -- the sum was turned
    have hD := hlow h32
    have k1 : V [e0, e1, e2, e3] + 2 ^ 32 * V p = V [e0, e1, e2, e3] ^^^ 2 ^ 32 * V p := (xor_add _ (l4 _ _ _ _)).symm
    have hlt := l4 e0 e1 e2 e3
    have hx32 : V [e0, e1, e2, e3] ^^^ 2 ^ f * u < 2 ^ 32 := Nat.xor_lt_two_pow hlt hD
    have k2 : V [e0, e1, e2, e3] + 2 ^ 32 * V p ^^^ 2 ^ f * u = (V [e0, e1, e2, e3] ^^^ 2 ^ f * u) + 2 ^ 32 * V p := by
      rw [k1, Nat.xor_assoc, Nat.xor_comm (2 ^ 32 * V p), ← Nat.xor_assoc, xor_add _ hx32]
    rw [show (8 * (0 + 1 + 1 + 1 + 1)) = 32 from rfl, k2] at hv
    have hxl := l4 x0 x1 x2 x3
    have hVp : V q = V p := by omega
    have hVx : V [x0, x1, x2, x3] = V [e0, e1, e2, e3] ^^^ 2 ^ f * u := by omega
    have hqp : q = p := V_inj hql hVp
    rw [hqp, ← hse] at hsum
    have hxe : be4 (num4 x0 x1 x2 x3) = be4 s := by rw [← hsum]
    rw [be4_num4, h3] at hxe
    rw [hxe] at hVx
    have := congrArg (V [e0, e1, e2, e3] ^^^ ·) hVx
    simp only [Nat.xor_self, ← Nat.xor_assoc, Nat.zero_xor] at this
    have hpos := Nat.mul_pos (Nat.two_pow_pos f) (Nat.pos_of_ne_zero h0)
    omega
  · -- the payload was turned
    obtain ⟨g, rfl⟩ : ∃ g, f = 32 + g := ⟨f - 32, by omega⟩
    have k1 : V [e0, e1, e2, e3] + 2 ^ 32 * V p = V [e0, e1, e2, e3] ^^^ 2 ^ 32 * V p := (xor_add _ (l4 _ _ _ _)).symm
    have k2 : V [e0, e1, e2, e3] + 2 ^ 32 * V p ^^^ 2 ^ (32 + g) * u = V [e0, e1, e2, e3] + 2 ^ 32 * (V p ^^^ 2 ^ g * u) := by
      rw [k1, Nat.xor_assoc, Nat.pow_add, Nat.mul_assoc, ← mul_xor, xor_add _ (l4 _ _ _ _)]
    rw [show (8 * (0 + 1 + 1 + 1 + 1)) = 32 from rfl, k2] at hv
    have hxl := l4 x0 x1 x2 x3
    have hel := l4 e0 e1 e2 e3
    have hVp : V q = V p ^^^ 2 ^ g * u := by omega
    have hVx : V [x0, x1, x2, x3] = V [e0, e1, e2, e3] := by omega
    have hxe := V_inj (a := [x0, x1, x2, x3]) (b := [e0, e1, e2, e3]) rfl hVx
    have hn : num4 x0 x1 x2 x3 = s := by
      obtain ⟨j0, k0⟩ := List.cons.inj hxe
      obtain ⟨j1, k1⟩ := List.cons.inj k0
      obtain ⟨j2, k2⟩ := List.cons.inj k1
      obtain ⟨j3, _⟩ := List.cons.inj k2
      rw [j0, j1, j2, j3, h4]
    rw [hn, hse] at hsum
    rw [← more_append 0 (be4 p.length) q, ← more_append 0 (be4 p.length) p] at hsum
    exact more_turned (more 0 (be4 p.length)) hql (by omega) hVp h0 hu hsum

end Go.Proofs.Ytbhjcfhpabnadaa
