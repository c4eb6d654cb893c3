/-
  The walk of FramesTurned. (Printed by wip/mkft.py.)
-/
import Derived.Test.YtbhjcfhpabnadaaRowW
import Derived.Deep.DeepCutAuto
namespace Go.Proofs.Ytbhjcfhpabnadaa
open Go.RowKit


open Go.RowKit


theorem mul_xor (k x y : Nat) : 2 ^ k * (x ^^^ y) = 2 ^ k * x ^^^ 2 ^ k * y := by
  refine Nat.eq_of_testBit_eq fun j => ?_
  simp only [Nat.testBit_two_pow_mul, Nat.testBit_xor]
  cases decide (j ≥ k) <;> simp

theorem xor_add {a k : Nat} (y : Nat) (h : a < 2 ^ k) : a ^^^ 2 ^ k * y = a + 2 ^ k * y := by
  refine Nat.eq_of_testBit_eq fun j => ?_
  rw [Nat.add_comm a, Nat.testBit_two_pow_mul_add _ h, Nat.testBit_xor, Nat.testBit_two_pow_mul]
  by_cases hj : j < k
  · rw [if_pos hj, decide_eq_false (by omega)]
    simp
  · rw [if_neg hj, decide_eq_true (by omega), Nat.testBit_lt_two_pow (Nat.lt_of_lt_of_le h (Nat.pow_le_pow_right (by omega) (by omega)))]
    simp

theorem st_two (x y : Nat) : st (x ^^^ 2 * y) = st x ^^^ y := by
  rw [st_xor]
  have h1 : 2 * y % 2 = 0 := by omega
  have h2 : 2 * y / 2 = y := by omega
  rw [h1, h2, Nat.xor_zero]
theorem it_two : ∀ (n x y : Nat), it n (x ^^^ 2 ^ n * y) = it n x ^^^ y
  | 0, x, y => by simp [it]
  | n + 1, x, y => by
    simp only [it]
    rw [show 2 ^ (n + 1) * y = 2 * (2 ^ n * y) by rw [Nat.pow_succ]; ac_rfl, st_two, it_two n]
theorem it_add : ∀ (a b c : Nat), it (a + b) c = it b (it a c)
  | 0, b, c => by simp [it]
  | a + 1, b, c => by
    rw [show a + 1 + b = (a + b) + 1 by omega]
    simp only [it]
    exact it_add a b _
theorem st_lin (x y : Nat) : st (x ^^^ y) = st x ^^^ st y := by
  rw [st_xor]
  have h1 : st (x ^^^ 1) = st x ^^^ 2197175160 := by
    have e1 : (x ^^^ 1) / 2 = x / 2 := by rw [xor_div2]; simp
    have e2 : (x ^^^ 1) % 2 = (x % 2) ^^^ 1 := xor_mod2 x 1
    unfold st
    rw [e1, e2]
    rcases Nat.mod_two_eq_zero_or_one x with h | h
    · rw [h]; simp
    · rw [h]; simp [Nat.xor_assoc]
  rcases Nat.mod_two_eq_zero_or_one y with h | h
  · rw [h, Nat.xor_zero]
    have : st y = y / 2 := by unfold st; rw [h]; simp
    rw [this]
  · rw [h, h1]
    have : st y = y / 2 ^^^ 2197175160 := by unfold st; rw [h]; simp
    rw [this]
    ac_rfl
theorem it_lin : ∀ (n x y : Nat), it n (x ^^^ y) = it n x ^^^ it n y
  | 0, _, _ => rfl
  | n + 1, x, y => by
    simp only [it]
    rw [st_lin, it_lin n]
theorem it_zero : ∀ n, it n 0 = 0
  | 0 => rfl
  | n + 1 => by
    simp only [it]
    exact it_zero n
theorem st_ne {c : Nat} (h : c < 4294967296) (h0 : c ≠ 0) : st c ≠ 0 := by
  unfold st
  split
  · intro e
    have e2 := congrArg (· ^^^ 2197175160) e
    simp only [xor_self_cancel, Nat.zero_xor] at e2
    omega
  · rw [Nat.xor_zero]
    omega
theorem it_ne : ∀ (n : Nat) {c : Nat}, c < 4294967296 → c ≠ 0 → it n c ≠ 0
  | 0, _, _, h0 => h0
  | n + 1, _, h, h0 => it_ne n (st_lt h) (st_ne h h0)

/-- Bytes as one number, the first byte lowest. -/
def V : List UInt8 → Nat
  | [] => 0
  | b :: r => b.toNat + 2 ^ 8 * V r
theorem V_cons (b : UInt8) (r : List UInt8) : V (b :: r) = b.toNat ^^^ 2 ^ 8 * V r := (xor_add _ (by have := u8_lt b; omega)).symm
theorem raw_V : ∀ (p : List UInt8) (c : Nat), raw c p = it (8 * p.length) (c ^^^ V p)
  | [], c => by simp [raw, it, V]
  | b :: r, c => by
    have h := raw_V r (stB c b)
    show raw (stB c b) r = _
    rw [h, V_cons, List.length_cons, show 8 * (r.length + 1) = 8 + 8 * r.length by omega, it_add, ← Nat.xor_assoc, it_two]
    rfl
theorem V_append : ∀ (a b : List UInt8), V (a ++ b) = V a + 2 ^ (8 * a.length) * V b
  | [], b => by simp [V]
  | x :: a, b => by
    simp only [List.cons_append, V, V_append a b, List.length_cons]
    rw [show 8 * (a.length + 1) = 8 + 8 * a.length by omega, Nat.pow_add, Nat.mul_add, Nat.mul_assoc]
    omega
theorem V_lt : ∀ (a : List UInt8), V a < 2 ^ (8 * a.length)
  | [] => by simp [V]
  | x :: a => by
    have := V_lt a
    have hx := u8_lt x
    simp only [V, List.length_cons]
    rw [show 8 * (a.length + 1) = 8 + 8 * a.length by omega, Nat.pow_add]
    have h2 := Nat.mul_le_mul_left (2 ^ 8) (show V a + 1 ≤ 2 ^ (8 * a.length) by omega)
    omega
theorem V_inj : ∀ {a b : List UInt8}, a.length = b.length → V a = V b → a = b
  | [], [], _, _ => rfl
  | [], _ :: _, h, _ => by simp at h
  | _ :: _, [], h, _ => by simp at h
  | x :: a, y :: b, h, hv => by
    have hx := u8_lt x
    have hy := u8_lt y
    simp only [V] at hv
    have h1 : x.toNat = y.toNat := by omega
    have h2 : V a = V b := by omega
    rw [UInt8.toNat_inj.1 h1, V_inj (by simpa using h) h2]

/-- A byte's bit i turned. -/
def turnB (b : UInt8) (i : Nat) : UInt8 := UInt8.ofNat (b.toNat ^^^ 2 ^ i)
theorem turnB_val (b : UInt8) {i : Nat} (h : i < 8) : (turnB b i).toNat = b.toNat ^^^ 2 ^ i := by
  have h2 : b.toNat ^^^ 2 ^ i < 2 ^ 8 := Nat.xor_lt_two_pow (by have := u8_lt b; omega) (Nat.pow_lt_pow_right (by omega) h)
  unfold turnB
  rw [UInt8.toNat_ofNat_of_lt' (by simpa [UInt8.size] using h2)]
theorem V_turn : ∀ (l : List UInt8) (j i : Nat) (hj : j < l.length), i < 8 → V (l.set j (turnB l[j] i)) = V l ^^^ 2 ^ (8 * j + i)
  | [], _, _, h, _ => by simp at h
  | b :: r, 0, i, _, hi => by
    simp only [List.set_cons_zero, List.getElem_cons_zero, V_cons]
    rw [turnB_val b hi, Nat.mul_zero, Nat.zero_add]
    ac_rfl
  | b :: r, j + 1, i, h, hi => by
    simp only [List.set_cons_succ, List.getElem_cons_succ, V_cons]
    rw [V_turn r j i (by simpa using h) hi, mul_xor, ← Nat.pow_add, show 8 + (8 * j + i) = 8 * (j + 1) + i by omega, Nat.xor_assoc]

/-- Turned bits within 32 side by side make another sum. -/
theorem more_turned {p p' : List UInt8} {f u : Nat} (c : Nat) (hl : p'.length = p.length) (hf : f ≤ 8 * p.length) (hv : V p' = V p ^^^ 2 ^ f * u) (h0 : u ≠ 0) (hu : u < 4294967296) : more c p' ≠ more c p := by
  intro e
  unfold more at e
  have e2 : raw (c ^^^ 4294967295) p' = raw (c ^^^ 4294967295) p := by
    have := congrArg (· ^^^ 4294967295) e
    simpa [xor_self_cancel] using this
  rw [raw_V, raw_V, hl, hv, ← Nat.xor_assoc, it_lin (8 * p.length) ((c ^^^ 4294967295) ^^^ V p)] at e2
  have e3 : it (8 * p.length) (2 ^ f * u) = 0 := by
    have := congrArg (it (8 * p.length) ((c ^^^ 4294967295) ^^^ V p) ^^^ ·) e2
    simpa [← Nat.xor_assoc] using this
  have e4 : it (8 * p.length) (2 ^ f * u) = it (8 * p.length - f) u := by
    conv => lhs; rw [show 8 * p.length = f + (8 * p.length - f) by omega, it_add, show 2 ^ f * u = 0 ^^^ 2 ^ f * u by simp, it_two, it_zero]
    simp
  rw [e4] at e3
  exact it_ne _ hu h0 e3

/-- The sum and the payload of a record, some bits of one of the two turned: what stands there begins no record. -/
theorem torn_turned {p R post : List UInt8} {f u : Nat} (hp : p.length ≤ 131072) (hR : R.length = 4 + p.length) (hv : V R = V (be4 (more 0 (be4 p.length ++ p)) ++ p) ^^^ 2 ^ f * u) (h0 : u ≠ 0) (hu : u < 4294967296)
    (hf : f + 1 ≤ 8 * (4 + p.length)) (hlow : f < 32 → 2 ^ f * u < 2 ^ 32) : nextS (be4 p.length ++ R ++ post) = none := by
  obtain ⟨a, b, c, d, h1, h2⟩ := be4_form (n := p.length) (by omega)
  have hs := more_lt (c := 0) (be4 p.length ++ p) (by omega)
  obtain ⟨s, hse⟩ : ∃ s, s = more 0 (be4 p.length ++ p) := ⟨_, rfl⟩
  rw [← hse] at hv hs
  -- the two parts of R
  have hR4 : (R.take 4).length = 4 := by rw [List.length_take]; omega
  obtain ⟨x0, x1, x2, x3, hx⟩ := four_form (R.take 4) hR4
  obtain ⟨q, hq⟩ : ∃ q, q = R.drop 4 := ⟨_, rfl⟩
  have hql : q.length = p.length := by rw [hq, List.length_drop]; omega
  have hRq : R = [x0, x1, x2, x3] ++ q := by rw [← hx, hq, List.take_append_drop]
  obtain ⟨e0, e1, e2, e3, h3, h4⟩ := be4_form hs
  have l4 : ∀ (y0 y1 y2 y3 : UInt8), V [y0, y1, y2, y3] < 2 ^ 32 := fun y0 y1 y2 y3 => V_lt [y0, y1, y2, y3]
  rw [hRq, h3, V_append, V_append] at hv
  simp only [List.length_cons, List.length_nil] at hv
  have hform : be4 p.length ++ R ++ post = a :: b :: c :: d :: x0 :: x1 :: x2 :: x3 :: (q ++ post) := by
    rw [h1, hRq]
    simp
  rw [hform]
  simp only [nextS]
  rw [h2, if_neg]
  rintro ⟨_, _, hsum⟩
  rw [← hql, List.take_left, ← h1] at hsum
  by_cases h32 : f < 32
  · -- the sum was turned
    have hD := hlow h32
    have k1 : V [e0, e1, e2, e3] + 2 ^ 32 * V p = V [e0, e1, e2, e3] ^^^ 2 ^ 32 * V p := (xor_add _ (l4 _ _ _ _)).symm
    have hlt := l4 e0 e1 e2 e3
    have hx32 : V [e0, e1, e2, e3] ^^^ 2 ^ f * u < 2 ^ 32 := Nat.xor_lt_two_pow hlt hD
    have k2 : V [e0, e1, e2, e3] + 2 ^ 32 * V p ^^^ 2 ^ f * u = (V [e0, e1, e2, e3] ^^^ 2 ^ f * u) + 2 ^ 32 * V p := by
      rw [k1, Nat.xor_assoc, Nat.xor_comm (2 ^ 32 * V p), ← Nat.xor_assoc, xor_add _ hx32]
    rw [show (8 * (0 + 1 + 1 + 1 + 1)) = 32 from rfl, k2] at hv
    have hxl := l4 x0 x1 x2 x3
    have hVp : V q = V p := by omega
    have hVx : V [x0, x1, x2, x3] = V [e0, e1, e2, e3] ^^^ 2 ^ f * u := by omega
    have hqp : q = p := V_inj hql hVp
    rw [hqp, ← hse] at hsum
    have hxe : be4 (num4 x0 x1 x2 x3) = be4 s := by rw [← hsum]
    rw [be4_num4, h3] at hxe
    rw [hxe] at hVx
    have := congrArg (V [e0, e1, e2, e3] ^^^ ·) hVx
    simp only [Nat.xor_self, ← Nat.xor_assoc, Nat.zero_xor] at this
    have hpos := Nat.mul_pos (Nat.two_pow_pos f) (Nat.pos_of_ne_zero h0)
    omega
  · -- the payload was turned
    obtain ⟨g, rfl⟩ : ∃ g, f = 32 + g := ⟨f - 32, by omega⟩
    have k1 : V [e0, e1, e2, e3] + 2 ^ 32 * V p = V [e0, e1, e2, e3] ^^^ 2 ^ 32 * V p := (xor_add _ (l4 _ _ _ _)).symm
    have k2 : V [e0, e1, e2, e3] + 2 ^ 32 * V p ^^^ 2 ^ (32 + g) * u = V [e0, e1, e2, e3] + 2 ^ 32 * (V p ^^^ 2 ^ g * u) := by
      rw [k1, Nat.xor_assoc, Nat.pow_add, Nat.mul_assoc, ← mul_xor, xor_add _ (l4 _ _ _ _)]
    rw [show (8 * (0 + 1 + 1 + 1 + 1)) = 32 from rfl, k2] at hv
    have hxl := l4 x0 x1 x2 x3
    have hel := l4 e0 e1 e2 e3
    have hVp : V q = V p ^^^ 2 ^ g * u := by omega
    have hVx : V [x0, x1, x2, x3] = V [e0, e1, e2, e3] := by omega
    have hxe := V_inj (a := [x0, x1, x2, x3]) (b := [e0, e1, e2, e3]) rfl hVx
    have hn : num4 x0 x1 x2 x3 = s := by
      obtain ⟨j0, k0⟩ := List.cons.inj hxe
      obtain ⟨j1, k1⟩ := List.cons.inj k0
      obtain ⟨j2, k2⟩ := List.cons.inj k1
      obtain ⟨j3, _⟩ := List.cons.inj k2
      rw [j0, j1, j2, j3, h4]
    rw [hn, hse] at hsum
    rw [← more_append 0 (be4 p.length) q, ← more_append 0 (be4 p.length) p] at hsum
    exact more_turned (more 0 (be4 p.length)) hql (by omega) hVp h0 hu hsum

/-- How the bytes lie when t bits have been looked at. -/
def TurnAt (pre R0 post : List UInt8) (f turns t : Nat) (bs : List UInt8) (tb : Bool) : Prop :=
  ∃ R, bs = pre ++ R ++ post ∧ R.length = R0.length ∧ V R = V R0 ^^^ 2 ^ f * (turns % 2 ^ t) ∧ tb = decide (turns % 2 ^ t ≠ 0) ∧ (f < 32 → f + t ≤ 32) ∧ f + t ≤ 8 * R0.length

theorem turn_step {pre R0 post bs : List UInt8} {f turns t fr : Nat} {tb : Bool} (h : TurnAt pre R0 post f turns t bs tb) (hfr : pre.length = fr) (hlt : f + t < 8 * R0.length) (hnb : ¬ (f < 32 ∧ 32 ≤ f + t)) :
    ∃ bx, bs[fr + (f + t) / 8]? = some bx ∧ (turns / 2 ^ t % 2 = 1 → TurnAt pre R0 post f turns (t + 1) (bs.set (fr + (f + t) / 8) (turnB bx ((f + t) % 8))) true) ∧ (turns / 2 ^ t % 2 = 0 → TurnAt pre R0 post f turns (t + 1) bs tb) := by
  obtain ⟨R, hbs, hRl, hV, htb, h1, h2⟩ := h
  have hj : (f + t) / 8 < R.length := by omega
  have hmod : turns % 2 ^ (t + 1) = turns % 2 ^ t + 2 ^ t * (turns / 2 ^ t % 2) := Nat.mod_pow_succ
  refine ⟨R[(f + t) / 8], ?_, fun hb => ⟨R.set ((f + t) / 8) (turnB R[(f + t) / 8] ((f + t) % 8)), ?_, by simp [hRl], ?_, ?_, fun hf => by omega, by omega⟩, fun hb => ⟨R, hbs, hRl, ?_, ?_, fun hf => by omega, by omega⟩⟩
  · rw [hbs, List.append_assoc, List.getElem?_append_right (by omega), List.getElem?_append_left (by omega), show fr + (f + t) / 8 - pre.length = (f + t) / 8 by omega]
    exact List.getElem?_eq_getElem hj
  · rw [hbs, List.append_assoc, List.set_append_right _ _ (by omega), List.set_append_left _ _ (by omega), show fr + (f + t) / 8 - pre.length = (f + t) / 8 by omega, List.append_assoc]
  · rw [V_turn R _ _ hj (Nat.mod_lt _ (by omega)), hV, hmod, hb, show 8 * ((f + t) / 8) + (f + t) % 8 = f + t by omega, Nat.mul_one, Nat.xor_assoc, Nat.pow_add]
    have := xor_add (a := turns % 2 ^ t) (k := t) 1 (Nat.mod_lt _ (Nat.two_pow_pos t))
    rw [Nat.mul_one] at this
    rw [← this, mul_xor]
  · rw [hmod, hb]
    have := Nat.two_pow_pos t
    exact (decide_eq_true (by omega)).symm
  · rw [hV, hmod, hb, Nat.mul_zero, Nat.add_zero]
  · rw [htb, hmod, hb, Nat.mul_zero, Nat.add_zero]

theorem bit_and (turns t : Nat) (h : turns < 4294967296) : bits .and .u32 ((turns : Int) / 2 ^ t) 1 = ((turns / 2 ^ t % 2 : Nat) : Int) := by
  have h1 : turns / 2 ^ t < 4294967296 := Nat.lt_of_le_of_lt (Nat.div_le_self _ _) h
  have := u32_and_nat (turns / 2 ^ t) 1 h1 (by omega)
  rw [Nat.and_one_is_mod] at this
  simpa using this
theorem bit_xor (b : UInt8) {i : Nat} (h : i < 8) : bits .xor .u8 (b.toNat : Int) (2 ^ i % 256) = ((turnB b i).toNat : Int) := by
  have hp : 2 ^ i < 256 := Nat.pow_lt_pow_right (a := 2) (by omega) (n := 8) h
  have := u8_xor_nat b.toNat (2 ^ i) (u8_lt b) hp
  rw [turnB_val b h, ← this, show (2 : Int) ^ i % 256 = ((2 ^ i : Nat) : Int) by
    rw [show (2 : Int) ^ i = ((2 ^ i : Nat) : Int) by simp, show (256 : Int) = ((256 : Nat) : Int) from rfl, ← Int.natCast_emod, Nat.mod_eq_of_lt hp]]


/-- A frame whose payload has some bits turned: no message stands there. -/
theorem decT_turned {p R post : List UInt8} {f u : Nat} (hp : p.length ≤ 131072) (hR : R.length = 4 + p.length) (hv : V R = V (be4 (more 0 (be4 p.length ++ p)) ++ p) ^^^ 2 ^ f * u) (h0 : u ≠ 0) (hu : u < 4294967296)
    (hf : f + 1 ≤ 8 * (4 + p.length)) (hlow : f < 32 → 2 ^ f * u < 2 ^ 32) : decT (be4 p.length ++ R ++ post) = (none, 0, 190) := by
  have hn := torn_turned (post := []) hp hR hv h0 hu hf hlow
  rw [List.append_nil] at hn
  have hb : be ((be4 p.length ++ R ++ post).take 4) = p.length := by
    rw [List.append_assoc, List.take_left' (be4_len _)]
    obtain ⟨a, b, c, d, h1, h2⟩ := be4_form (n := p.length) (by omega)
    rw [h1, be_num4, h2]
  have hl : (be4 p.length ++ R ++ post).length = 8 + p.length + post.length := by rw [List.length_append, List.length_append, be4_len, hR]; omega
  have ht : (be4 p.length ++ R ++ post).take (p.length + 8) = be4 p.length ++ R := List.take_left' (by rw [List.length_append, be4_len, hR]; omega)
  unfold decT
  rw [hb, if_neg (by omega), if_neg (by omega), if_neg (by omega), ht, hn]

/-- The reading ends at the message that was damaged. -/
theorem turn_parse {P : List (List UInt8 × Msg)} (hok : ∀ x ∈ P, x.1.length ≤ 131072 ∧ msgS x.1 = some x.2) {k : Nat} {p pre R0 post bs : List UInt8} {f turns t : Nat} (hp : p.length ≤ 131072) (hpre : pre = catF ((P.take k).map (·.1)) ++ be4 p.length)
    (hR0 : R0 = be4 (more 0 (be4 p.length ++ p)) ++ p) (hf : 32 ≤ f) (hf2 : f < 8 * R0.length) (hturns : turns < 4294967296) (h : TurnAt pre R0 post f turns t bs true) : bs.length = pre.length + R0.length + post.length ∧ parse bs = ((P.take k).map (·.2), [], true) := by
  obtain ⟨R, hbs, hRl, hV, htb, h1, h2⟩ := h
  have hR0l : R0.length = 4 + p.length := by rw [hR0, List.length_append, be4_len]
  refine ⟨by rw [hbs, List.length_append, List.length_append, hRl], ?_⟩
  have h0 : turns % 2 ^ t ≠ 0 := of_decide_eq_true htb.symm
  have hle : turns % 2 ^ t ≤ turns := Nat.mod_le _ _
  have hd := decT_turned (R := R) (post := post) (f := f) (u := turns % 2 ^ t) hp (by rw [hRl, hR0l]) (by rw [hV, hR0]) h0 (by omega) (by omega) (fun hf32 => by omega)
  rw [hbs, hpre, List.append_assoc, List.append_assoc]
  rw [parse_frames (be4 p.length ++ (R ++ post)) (P.take k) fun x hx => hok x (List.mem_of_mem_take hx), ← List.append_assoc (be4 p.length), parse_bad hd]
  simp

/-- Undamaged. -/
theorem row_parse {P : List (List UInt8 × Msg)} (hok : ∀ x ∈ P, x.1.length ≤ 131072 ∧ msgS x.1 = some x.2) : parse (catF (P.map (·.1))) = (P.map (·.2), [], false) := by
  have := parse_frames [] P hok
  rw [List.append_nil, parse_torn decT_nil] at this
  simpa using this



attribute [local go_sem] drewN_setCell drewN_alloc World.drewN_drewN

theorem row49_at (ms : List Msg) (M q : Nat) (hM : M = (rowB (rowP ms)).length) (hq : q = (rowP ms).length) (n : Nat) (hn : n = ms.length) (A : Option Addr) (c B : Nat) (w : World) (hm : Rd w B A (mv ms)) (hB : B ≤ w.heap.size) (hl : n ≤ 1954687338211) (hL : ∀ t, (rowB (rowP (ms.take t))).length ≤ 180000000000000) :
    Calls Try.prog 49 #[.slice A n c] w (RowOut w (rowP ms) M q) := by
  refine (row49_wide ms n hn A c B w hm hB hl hL).mono ?_
  rintro e w' ⟨M', q', Ab, cb, O, co, Pl, cp, he, h1, h2, h3⟩
  obtain rfl : M' = M := h1.trans hM.symm
  obtain rfl : q' = q := h2.trans hq.symm
  exact ⟨Ab, cb, O, co, Pl, cp, he, h1, h2, h3⟩
theorem mv_take : ∀ (l : List Msg) (k : Nat), (mv l).take (k * 7) = mv (l.take k)
  | [], k => by simp [mv]
  | x :: l, 0 => by simp [mv]
  | x :: l, k + 1 => by
    have ih := mv_take l k
    have e : mv (x :: l) = msgC x ++ mv l := by simp [mv]
    have e2 : mv ((x :: l).take (k + 1)) = msgC x ++ mv (l.take k) := by simp [mv]
    rw [e, e2, List.take_append, ← ih, List.take_of_length_le (by simp [msgC]; omega)]
    congr 2
    simp [msgC]
    omega
theorem Own.shrinkM {w : World} {base e n c m : Nat} {A : Option Addr} {l : List Msg} (h : Own w base e 7 A n c (mv l)) (hm : m ≤ n) : Own w base e 7 A m c (mv (l.take m)) := by
  have hl := h.len
  refine ⟨by rw [← mv_take, List.length_take]; omega, ?_⟩
  rcases h.2 with ⟨hv, hn⟩ | ⟨g, cap, cur, hv, hb, hg, hnc, hcm, hcs, hx⟩
  · injection hv with h1 h2 h3
    subst h1 h2 h3
    exact .inl ⟨by rw [show m = 0 by omega], by omega⟩
  · injection hv with h1 h2 h3
    subst h1 h3
    refine .inr ⟨g, c, cur, rfl, hb, hg, by omega, hcm, hcs, ?_⟩
    rw [← mv_take, ← hx, List.take_take, Nat.min_eq_left (Nat.mul_le_mul_right _ hm)]
theorem msgS_ne {p : List UInt8} {m : Msg} (h : msgS p = some m) : 0 < p.length := by
  unfold msgS at h
  split at h
  · rename_i hc
    exact List.length_pos_iff.2 hc.1
  · cases h
set_option maxHeartbeats 400000 in
theorem feed_deadW {s : RSt} (hd : s.dead = true) {g base : Nat} {A : Option Addr} {w : World} (hr : Rdr w 115 base g A s) (n : Nat) (S : Option Addr) (c : Nat) :
    Calls Try.prog 43 #[.pointer (some ⟨g, 0, none⟩), .slice S n c] w fun e w' => e = .returned (.tuple #[.slice none 0 0, .int .i64 190]) ∧ w = w' := by
  obtain ⟨⟨cA, hg, _⟩, _⟩ := hr
  rw [hd] at hg
  have x1 := cellAt hg (j := 1) rfl
  clear hg hd
  go_enter Try.func43, Try.ntmps43
  go_wp2
  go_ret2
  exact ⟨rfl, rfl⟩
theorem turn_step2 {pre R0 post bs : List UInt8} {f turns t X s8 : Nat} {tb : Bool} (h : TurnAt pre R0 post (32 + f) turns t bs tb) (hX : pre.length + 4 = X) (hs : 8 * R0.length = 32 + s8) (hlt : f + t < s8) :
    ∃ bx, bs[X + (f + t) / 8]? = some bx ∧ (turns / 2 ^ t % 2 = 1 → TurnAt pre R0 post (32 + f) turns (t + 1) (bs.set (X + (f + t) / 8) (turnB bx ((f + t) % 8))) true) ∧ (turns / 2 ^ t % 2 = 0 → TurnAt pre R0 post (32 + f) turns (t + 1) bs tb) := by
  obtain ⟨bx, h1, h2, h3⟩ := turn_step h rfl (by omega) (by omega)
  have e1 : pre.length + (32 + f + t) / 8 = X + (f + t) / 8 := by omega
  have e2 : (32 + f + t) % 8 = (f + t) % 8 := by omega
  rw [e1] at h1 h2
  rw [e2] at h2
  exact ⟨bx, h1, h2, h3⟩
theorem fedE (b : List UInt8) (L : List Msg) (R : RSt) (q : Nat) (h : parse b = (L, R.waits, R.dead)) (hq : q = L.length) (n : Nat) (hn : n = b.length) (A : Option Addr) (c B : Nat) (w : World) (hx : Rd w B A (bv b)) (hB : B ≤ w.heap.size) (hc : n ≤ c) (hl : n ≤ 8388608)
    (zs : List Int) (ns : Nat) (hns : ns = zs.length) (Z : Option Addr) (cz Bz : Nat) (hz : Rd w Bz Z (zs.map (Value.int .i64))) (hBz : Bz ≤ w.heap.size) (hnm : ns ≤ 9223372036854775807) :
    Calls Try.prog 50 #[.slice A n c, .slice Z ns cz] w (FedEnd w L R q) :=
  fed_any b L R q (by rw [h]) (by unfold rsOf; rw [h]) hq n hn A c B w hx hB hc hl zs ns hns Z cz Bz hz hBz hnm

def txs (ms : List Msg) : Nat := (ms.map fun m => m.text.size).sum
theorem paySpec_text {kind : Int} {name text : ByteArray} {ver frm nonce err : Int} {p : List UInt8} (h : paySpec kind name text ver frm nonce err = some p) : p.length ≤ text.size + 74 := by
  by_cases h1 : kind = 1
  · subst h1
    rw [rspec1] at h
    split at h
    · rename_i hc
      injection h with h
      subst h
      simp only [List.length_append, beN_len, sB_len, List.length_cons, List.length_nil]
      omega
    · cases h
  by_cases h2 : kind = 2
  · subst h2
    rw [rspec2] at h
    split at h
    · rename_i hc
      injection h with h
      subst h
      simp only [List.length_append, beN_len, sB_len, List.length_cons, List.length_nil]
      omega
    · cases h
  by_cases h3 : kind = 3
  · subst h3
    rw [rspec3] at h
    split at h
    · injection h with h
      subst h
      simp only [List.length_append, beN_len, List.length_cons, List.length_nil]
      omega
    · cases h
  by_cases h4 : kind = 4
  · subst h4
    rw [rspec4] at h
    split at h
    · injection h with h
      subst h
      simp only [List.length_append, beN_len, List.length_cons, List.length_nil]
      omega
    · cases h
  by_cases h5 : kind = 5
  · subst h5
    rw [rspec5] at h
    split at h
    · injection h with h
      subst h
      simp only [List.length_append, beN_len, List.length_cons, List.length_nil]
      omega
    · cases h
  unfold paySpec at h
  rw [if_neg h1, if_neg h2, if_neg h3, if_neg h4, if_neg h5] at h
  cases h
theorem rowB_texts : ∀ (ms : List Msg), (rowB (rowP ms)).length ≤ 82 * ms.length + txs ms
  | [] => by simp [rowP, rowB, catF]
  | m :: ms => by
    have ih := rowB_texts ms
    have e : rowP (m :: ms) = (match payM m with | none => rowP ms | some p => (p, plainM m) :: rowP ms) := by
      unfold rowP
      rw [List.filterMap_cons]
      cases payM m <;> rfl
    rw [e]
    simp only [txs, List.map_cons, List.sum_cons, List.length_cons] at ih ⊢
    cases hp : payM m with
    | none => simp only; omega
    | some p =>
      have h1 := paySpec_text hp
      simp only [rowB, List.map_cons, catF_cons, List.length_append, frame_len] at ih ⊢
      omega
theorem txs_app (a b : List Msg) : txs (a ++ b) = txs a + txs b := by
  unfold txs
  rw [List.map_append, List.sum_append]
theorem txs_take (ms : List Msg) (t : Nat) : txs (ms.take t) ≤ txs ms := by
  have e : txs ms = txs (ms.take t) + txs (ms.drop t) := by rw [← txs_app, List.take_append_drop]
  omega
theorem txs_snoc (ms : List Msg) {t : Nat} (h : t < ms.length) : txs (ms.take (t + 1)) = txs (ms.take t) + (ms[t]).text.size := by
  rw [List.take_succ_eq_append_getElem h, txs_app]
  simp [txs]
theorem rowB_low : ∀ (P : List (List UInt8 × Msg)), 8 * P.length ≤ (rowB P).length
  | [] => by simp [rowB, catF]
  | (p, m) :: P => by
    have ih := rowB_low P
    simp only [rowB, List.map_cons, catF_cons, List.length_append, frame_len, List.length_cons] at ih ⊢
    omega

set_option maxRecDepth 100000 in
set_option maxHeartbeats 2000000 in
theorem framesTurned_any (ms : List Msg) (A : Option Addr) (c : Nat) (which at0 : Int) (turns : Nat) (hturns : turns < 4294967296) (zs : List Int) (Z : Option Addr) (cz : Nat) (w : World) (hm : Rd w w.heap.size A (mv ms)) (hl : ms.length ≤ 1954687338211) (hz : Rd w w.heap.size Z (zs.map (Value.int .i64))) (hzl : zs.length ≤ 9223372036854775807) :
    Calls Try.prog 16 #[.agg #[.slice A ms.length c, .int .i64 which, .int .i64 at0, .int .u32 turns, .slice Z zs.length cz]] w fun e w' => e = .returned (.bool true) ∧ Below w.heap.size w w' := by
  obtain ⟨P, hP⟩ : ∃ P, P = rowP ms := ⟨_, rfl⟩
  obtain ⟨M, hM⟩ : ∃ M, M = (rowB P).length := ⟨_, rfl⟩
  obtain ⟨q, hq⟩ : ∃ q, q = P.length := ⟨_, rfl⟩
  obtain ⟨n, hn⟩ : ∃ n, n = ms.length := ⟨_, rfl⟩
  obtain ⟨ns, hns⟩ : ∃ n, n = zs.length := ⟨_, rfl⟩
  have hok := rowP_ok ms
  rw [← hP] at hok
  rw [← hn] at hl
  rw [← hns] at hzl
  rw [← hn, ← hns]
  have HROW := Lib.hid (fun (w1 : World) (hb : Below w.heap.size w w1) (hk : txs (ms.take n) ≤ 20000) => row49_at ms M q (by rw [← hP]; exact hM) (by rw [← hP]; exact hq) n hn A c w.heap.size w1 (hm.below hb) hb.size hl fun t => by
    have h1 := rowB_texts (ms.take t)
    have h2 := txs_take ms t
    rw [List.take_of_length_le (by omega)] at hk
    rw [List.length_take] at h1
    omega)
  rw [← hP] at HROW
  have HZ := Lib.hid (fun (w1 : World) (hb : Below w.heap.size w w1) => And.intro hns (And.intro (hz.below hb) hb.size))
  have HMS := Lib.hid (fun (w1 : World) (hb : Below w.heap.size w w1) (t : Nat) (ht : t < n) => show ∃ g o tx, A = some ⟨g, o, none⟩ ∧ w1.cell? ⟨g, o + t * 7 + 6, none⟩ = some (.string tx) ∧ Hid (txs (ms.take (t + 1)) = txs (ms.take t) + tx.size) from by
    obtain ⟨m, hmm⟩ : ∃ m, m = ms[t]'(by omega) := ⟨_, rfl⟩
    obtain ⟨kd, nm, ve, fr, no, er, tx⟩ := m
    obtain ⟨g, o, h1, _, _, _, _, _, _, _, h2⟩ := (hm.below hb).msg (k := t) (by rw [hmm]; exact List.getElem?_eq_getElem (by omega))
    refine ⟨g, o, tx, h1, h2, Lib.hid ?_⟩
    rw [txs_snoc ms (by omega), ← hmm])
  have HM := Lib.hid hM
  have Hq := Lib.hid hq
  have Hok := Lib.hid hok
  clear hP hM hq hn hns hok hm hz
  have hbox : Below w.heap.size w (w.alloc (.cells #[.slice A n c, .int .i64 which, .int .i64 at0, .int .u32 turns, .slice Z ns cz] 94)) := (Below.refl _ _).alloc (Nat.le_refl _) _
  go_enter Try.func16, Try.ntmps16
  go_wp2_with (first
    | (go_at_call 46; refine (awake46_any _).mono ?_; rintro e w1 ⟨rfl, b1⟩; have HC := Lib.hid (fun (W : World) (hW : Below w1.heap.size w1 W) => show W.heap[w.heap.size]? = some (.cells #[.slice A n c, .int .i64 which, .int .i64 at0, .int .u32 turns, .slice Z ns cz] 94 (0, 0)) from (hW.block _ (Nat.lt_of_lt_of_le (by simp) b1.size)).trans ((b1.block w.heap.size (by simp)).trans (new_at w _))); have b01 := hbox.trans (b1.mono hbox.size); have hlt1 : w.heap.size < w1.heap.size := Nat.lt_of_lt_of_le (by simp) b1.size; clear b1)
    | fail)
  have c0 := cellAt (HC.out w1 (Below.refl _ _)) (j := 0) rfl
  go_loop [3, 4] (fun tx i => ∃ (t k : Nat), t ≤ n ∧ k ≤ 20000 ∧ tx = .int .i64 k ∧ i = .int .i64 t ∧ Hid (txs (ms.take t) = k)) (fun _ i => n - (intOf i).toNat)
  case atStart => exact ⟨0, 0, Nat.zero_le _, Nat.zero_le _, rfl, rfl, Lib.hid rfl⟩
  case round =>
    obtain ⟨t, k, ht, hk, rfl, rfl, hT⟩ := hrel
    by_cases hlt : t < n
    · obtain ⟨g, o, tx, rfl, hcell, hT2⟩ := HMS.out w1 b01 t hlt
      go_wp2
      · go_ret
        exact ⟨rfl, b01⟩
      · go_round
        case rel => exact ⟨t + 1, k + tx.size, by omega, by omega, by go_num, by go_num, Lib.hid (by rw [hT2.out, hT.out])⟩
        case measure => simp [intOf]; omega
    · obtain rfl : t = n := by omega
      have hk20 : txs (ms.take t) ≤ 20000 := by rw [hT.out]; exact hk
      have HR1 := Lib.hid (HROW.out w1 b01 hk20)
      clear hlt ht hk20 HROW hT

      by_cases hbig : 20000 < M
      · have hbI : (20000 : Int) < (M : Int) := by omega
        go_wp2_with (first
          | (go_at_call 49; go_loud (refine (HR1.out).mono ?_); rintro e w2 ⟨Ab, cb, O, co, Pl, cp, rfl, v1, v2, hb, hg, hp, b2⟩; clear v1 v2; have d2 := b01.trans (b2.mono b01.size); have z2 := HC.out w2 b2; have e4 := cellAt z2 (j := 4) rfl; have e3 := cellAt z2 (j := 3) rfl; clear z2)
          | fail)
        go_ret
        exact ⟨rfl, d2⟩
      have hbI : ¬ (20000 : Int) < (M : Int) := by omega
      have hqb : q ≤ 2500 := by have := rowB_low P; rw [← HM.out, ← Hq.out] at this; omega
      have HFD := Lib.hid (fun (W : World) (A' : Option Addr) (c' : Nat) (hx : Rd W W.heap.size A' (bv (rowB P))) (hc : M ≤ c') (hW : Below w.heap.size w W) => fedE (rowB P) (rowM P) ⟨[], false⟩ q (row_parse Hok.out) (by rw [rowM_len]; exact Hq.out) M HM.out A' c' W.heap.size W hx (Nat.le_refl _) hc (by omega) zs ns (HZ.out W hW).1 Z cz w.heap.size (HZ.out W hW).2.1 (HZ.out W hW).2.2 (by omega))
      have HSM := Lib.hid (fun (W : World) (B1 B2 : Nat) (O1 O2 : Option Addr) (c1 c2 : Nat) (h1 : Own W B1 60 7 O1 q c1 (mv (rowM P))) (h2 : Own W B2 60 7 O2 q c2 (mv (rowM P))) => same_any (rowM P) q (by rw [rowM_len]; exact Hq.out) O1 O2 c1 c2 B1 B2 W h1 h2 (by omega))
      by_cases hq0 : q = 0
      · have hq1 : ((q : Int) == 0) = true := by simp [hq0]
        clear hq0
        go_wp2_with (first
          | (go_at_call 49; go_loud (refine (HR1.out).mono ?_); rintro e w2 ⟨Ab, cb, O, co, Pl, cp, rfl, v1, v2, hb, hg, hp, b2⟩; clear v1 v2; have d2 := b01.trans (b2.mono b01.size); have z2 := HC.out w2 b2; have e4 := cellAt z2 (j := 4) rfl; have e3 := cellAt z2 (j := 3) rfl; clear z2)
          | (go_at_call 50; go_loud (with_reducible refine (HFD.out w2 Ab cb hb.rd (own_cap hb) d2).mono ?_); rintro e w3 ⟨O3, c3, A3, rfl, o3, r3, b3, s3⟩; have b23 := b2.trans (b3.mono b2.size); have hg3 := hg.below b3 (Nat.le_refl _); have WA := Lib.hid (fun (m : Nat) => waits_any (r3.below (below_drewN (Below.refl _ _) m))); have WD := Lib.hid (fun (m : Nat) => dead_any (r3.below (below_drewN (Below.refl _ _) m))); have d3 := d2.trans (b3.mono d2.size); have z3 := HC.out w3 b23; have y1 := cellAt z3 (j := 1) rfl; have y2 := cellAt z3 (j := 2) rfl; have y3 := cellAt z3 (j := 3) rfl; clear z3)
          | (go_at_call 51; go_loud (with_reducible refine (HSM.out w3 _ _ O3 O c3 co o3 hg3).mono ?_); rintro e w4 ⟨rfl, m4, rfl⟩)
          | (go_at_call 42; go_loud (refine (WD.out m4).mono ?_); rintro e w7 ⟨rfl, rfl⟩)
          | (go_at_call 41; go_loud (refine (WA.out m4).mono ?_); rintro e w7 ⟨rfl, rfl⟩)
          | fail)
        go_ret
        exact ⟨rfl, below_drewN d3 _⟩
      have hq1 : ((q : Int) == 0) = false := by simpa using hq0
      by_cases ht0 : turns = 0
      · have ht1 : ((turns : Int) == 0) = true := by simp [ht0]
        clear ht0
        go_wp2_with (first
          | (go_at_call 49; go_loud (refine (HR1.out).mono ?_); rintro e w2 ⟨Ab, cb, O, co, Pl, cp, rfl, v1, v2, hb, hg, hp, b2⟩; clear v1 v2; have d2 := b01.trans (b2.mono b01.size); have z2 := HC.out w2 b2; have e4 := cellAt z2 (j := 4) rfl; have e3 := cellAt z2 (j := 3) rfl; clear z2)
          | (go_at_call 50; go_loud (with_reducible refine (HFD.out w2 Ab cb hb.rd (own_cap hb) d2).mono ?_); rintro e w3 ⟨O3, c3, A3, rfl, o3, r3, b3, s3⟩; have b23 := b2.trans (b3.mono b2.size); have hg3 := hg.below b3 (Nat.le_refl _); have WA := Lib.hid (fun (m : Nat) => waits_any (r3.below (below_drewN (Below.refl _ _) m))); have WD := Lib.hid (fun (m : Nat) => dead_any (r3.below (below_drewN (Below.refl _ _) m))); have d3 := d2.trans (b3.mono d2.size); have z3 := HC.out w3 b23; have y1 := cellAt z3 (j := 1) rfl; have y2 := cellAt z3 (j := 2) rfl; have y3 := cellAt z3 (j := 3) rfl; clear z3)
          | (go_at_call 51; go_loud (with_reducible refine (HSM.out w3 _ _ O3 O c3 co o3 hg3).mono ?_); rintro e w4 ⟨rfl, m4, rfl⟩)
          | (go_at_call 42; go_loud (refine (WD.out m4).mono ?_); rintro e w7 ⟨rfl, rfl⟩)
          | (go_at_call 41; go_loud (refine (WA.out m4).mono ?_); rintro e w7 ⟨rfl, rfl⟩)
          | fail)
        go_ret
        exact ⟨rfl, below_drewN d3 _⟩
      have ht1 : ((turns : Int) == 0) = false := by simpa using ht0
      have hqp : 0 < q := by omega
      have HP := Lib.hid (show ∀ (k : Nat), k < q → ∃ p m, p.length ≤ 131072 ∧ 0 < p.length ∧ rowB (P.take (k + 1)) = rowB (P.take k) ++ frame p ∧ rowB P = rowB (P.take k) ++ be4 p.length ++ (be4 (more 0 (be4 p.length ++ p)) ++ p) ++ rowB (P.drop (k + 1)) ∧ msgS p = some m from fun k hk => by
        have hkP : k < P.length := by rw [← Hq.out]; exact hk
        obtain ⟨x, hx⟩ : ∃ x, x = P[k] := ⟨_, rfl⟩
        have hmem : x ∈ P := by rw [hx]; exact List.getElem_mem hkP
        obtain ⟨p, m⟩ := x
        have h1 := Hok.out _ hmem
        have htk : P.take (k + 1) = P.take k ++ [(p, m)] := by rw [List.take_succ_eq_append_getElem hkP, ← hx]
        refine ⟨p, m, h1.1, msgS_ne h1.2, by rw [htk, rowB_snoc], ?_, h1.2⟩
        conv => lhs; rw [← List.take_append_drop k P, List.drop_eq_getElem_cons hkP, ← hx]
        unfold rowB
        rw [List.map_append, List.map_cons]
        unfold catF
        rw [List.flatMap_append, List.flatMap_cons]
        unfold frame
        simp only [List.append_assoc])
      go_upto_if 90 with (first
          | (go_at_call 47; go_loud (refine (round47_any which q _ hqp (by omega)).mono ?_); rintro e wc ⟨⟨k, hk, rfl⟩, rfl⟩)
          | (go_at_call 49; go_loud (refine (HR1.out).mono ?_); rintro e w2 ⟨Ab, cb, O, co, Pl, cp, rfl, v1, v2, hb, hg, hp, b2⟩; clear v1 v2; have d2 := b01.trans (b2.mono b01.size); have z2 := HC.out w2 b2; have e4 := cellAt z2 (j := 4) rfl; have e3 := cellAt z2 (j := 3) rfl; clear z2)
          | (go_at_call 50; go_loud (with_reducible refine (HFD.out w2 Ab cb hb.rd (own_cap hb) d2).mono ?_); rintro e w3 ⟨O3, c3, A3, rfl, o3, r3, b3, s3⟩; have b23 := b2.trans (b3.mono b2.size); have hg3 := hg.below b3 (Nat.le_refl _); have WA := Lib.hid (fun (m : Nat) => waits_any (r3.below (below_drewN (Below.refl _ _) m))); have WD := Lib.hid (fun (m : Nat) => dead_any (r3.below (below_drewN (Below.refl _ _) m))); have d3 := d2.trans (b3.mono d2.size); have z3 := HC.out w3 b23; have y1 := cellAt z3 (j := 1) rfl; have y2 := cellAt z3 (j := 2) rfl; have y3 := cellAt z3 (j := 3) rfl; clear z3)
          | (go_at_call 51; go_loud (with_reducible refine (HSM.out w3 _ _ O3 O c3 co o3 hg3).mono ?_); rintro e w4 ⟨rfl, m4, rfl⟩)
          | (go_at_call 42; go_loud (refine (WD.out m4).mono ?_); rintro e w7 ⟨rfl, rfl⟩)
          | (go_at_call 41; go_loud (refine (WA.out m4).mono ?_); rintro e w7 ⟨rfl, rfl⟩)
          | fail)
      obtain ⟨p, m, hpl, hp0, hsnoc, hcat, hmsg⟩ := HP.out k hk
      obtain ⟨ln, hln⟩ : ∃ ln, ln = p.length := ⟨_, rfl⟩
      obtain ⟨F0, hF0⟩ : ∃ F0, F0 = (rowB (P.take k)).length := ⟨_, rfl⟩
      obtain ⟨E, hE⟩ : ∃ E, E = F0 + (8 + ln) := ⟨_, rfl⟩
      obtain ⟨X, hX⟩ : ∃ X, X = F0 + 8 := ⟨_, rfl⟩
      obtain ⟨s8, hs8⟩ : ∃ s8, s8 = 8 * ln := ⟨_, rfl⟩
      have hElen : (rowB (P.take (k + 1))).length = E := by rw [hsnoc, List.length_append, frame_len, hE, hF0, hln]
      have hMlen : M = F0 + 4 + (4 + ln) + (rowB (P.drop (k + 1))).length := by
        rw [HM.out, hcat]
        simp only [List.length_append, be4_len]
        omega
      obtain ⟨gp, rfl, _⟩ := hp.form_pos hqp
      obtain ⟨go, rfl, _⟩ := hg.form_pos hqp
      have hp3 := hp.below b3 (Nat.le_refl _)
      have hcell3 : ∀ j, j < q → w3.cell? ⟨gp, j, none⟩ = some (.int .i64 ((rowB (P.take (j + 1))).length : Int)) := fun j hj => by
        obtain ⟨a, ha, _, hc⟩ := hp3.rd j _ (rowL_get P (by rw [← Hq.out]; exact hj))
        obtain rfl := Option.some.inj ha
        rw [Addr.add_lit, Nat.zero_add] at hc
        exact hc
      have hcp : w3.cell? ⟨gp, k, none⟩ = some (.int .i64 (E : Int)) := by rw [hcell3 k hk, hElen]
      have HCJ := Lib.hid (show ∀ j, k = j + 1 → w3.cell? ⟨gp, j, none⟩ = some (.int .i64 (F0 : Int)) from fun j hj => by rw [hcell3 j (by omega), ← hj, hF0])
      have hF00 : k = 0 → F0 = 0 := fun h => by rw [hF0, h]; rfl
      have HLE := Lib.hid (show E ≤ M ∧ X + ln = E ∧ 0 < ln ∧ ln ≤ 131072 ∧ s8 = 8 * ln ∧ X = F0 + 8 from ⟨by omega, by omega, by omega, by omega, hs8, hX⟩)
      have HPE := Lib.hid (And.intro hln (And.intro hF0 (And.intro hcat (And.intro hpl hmsg))))
      have hX8 : (F0 : Int) + 8 = (X : Int) := by omega
      have hEX : IntKind.i64.wrap ((E : Int) - (X : Int)) = (ln : Int) := by rw [show (E : Int) - (X : Int) = (ln : Int) by omega]; exact IntWalk.i64_in _ (by omega)
      have hS8 : IntKind.i64.wrap (8 * (ln : Int)) = (s8 : Int) := by rw [show 8 * (ln : Int) = (s8 : Int) by omega]; exact IntWalk.i64_in _ (by omega)
      have hFb : F0 ≤ 20000 := by omega
      have hEb : E ≤ 20000 := by omega
      have hs80 : 0 < s8 := by omega
      have hs8b : s8 ≤ 160000 := by omega
      have hpq := hqp
      clear hln hF0 hE hX hs8 hElen hMlen hsnoc hcat hmsg hp0 hpl hcell3 hp3
      go_cut [11] (fun v wx => v = .int .i64 (X : Int) ∧ wx = w3.drewN m4)
      case first =>
        by_cases hk0 : 0 < k
        · obtain ⟨j, hj⟩ : ∃ j, k = j + 1 := ⟨k - 1, by omega⟩
          have hcj := HCJ.out j hj
          have hk1 : (k : Int) - 1 = (j : Int) := by omega
          clear hj
          go_wp2
          go_meet
          case rel => exact ⟨by simp, rfl⟩
        · have hz := hF00 (by omega)
          have hX0 : X = 8 := by have := HLE.out.2.2.2.2.2; omega
          clear hz
          go_wp2
          go_meet
          case rel => exact ⟨by simp [hX0], rfl⟩
      case rest =>
        obtain ⟨rfl, rfl⟩ := hcut

        obtain ⟨hEM, hXE, hln0, hlnb, -, -⟩ := HLE.out
        obtain ⟨gb, rfl, hgb⟩ := hb.form_pos (show 0 < M by omega)
        obtain ⟨pre, hpre⟩ : ∃ pre, pre = rowB (P.take k) ++ be4 p.length := ⟨_, rfl⟩
        obtain ⟨R0, hR0⟩ : ∃ R0, R0 = be4 (more 0 (be4 p.length ++ p)) ++ p := ⟨_, rfl⟩
        obtain ⟨post, hpost⟩ : ∃ post, post = rowB (P.drop (k + 1)) := ⟨_, rfl⟩
        have hRl : 8 * R0.length = 32 + s8 := by have := HPE.out.1; have := HLE.out.2.2.2.2.1; rw [hR0, List.length_append, be4_len]; omega
        have hprl : pre.length + 4 = X := by have := HPE.out.2.1; have := HLE.out.2.2.2.2.2; rw [hpre, List.length_append, be4_len]; omega
        have HPRE := Lib.hid (show pre = rowB (P.take k) ++ be4 p.length ∧ R0 = be4 (more 0 (be4 p.length ++ p)) ++ p ∧ 8 * R0.length = 32 + s8 ∧ pre.length + 4 = X ∧ rowB P = pre ++ R0 ++ post from ⟨hpre, hR0, hRl, hprl, by rw [hpre, hR0, hpost]; exact HPE.out.2.2.1⟩)
        have hb' : Own (w3.drewN m4) w1.heap.size 5 1 (some ⟨gb, 0, none⟩) M cb (bv (rowB P)) := (hb.below b3 (Nat.le_refl _)).drewN m4
        have hg' : Own (w3.drewN m4) w1.heap.size 60 7 (some ⟨go, 0, none⟩) q co (mv (rowM P)) := (hg.below b3 (Nat.le_refl _)).drewN m4
        have dr : Below w1.heap.size w1 (w3.drewN m4) := below_drewN (b2.trans (b3.mono b2.size)) m4
        clear hpre hR0 hpost hRl hprl hb hg hp hg3 o3 r3 b2 b3 b23 WA WD hEM hXE hln0 y1 y3 hX8
        go_wp2_with (first
          | (go_at_call 47; go_loud (refine (round47_any at0 s8 _ hs80 (by omega)).mono ?_); rintro e wc ⟨⟨f, hf, rfl⟩, rfl⟩)
          | fail)
        go_loopw [14, 15] (fun tn i wr => ∃ (t : Nat) (bs : List UInt8) (tb : Bool), i = .int .i64 t ∧ tn = .bool tb ∧ t ≤ 32 ∧ Hid (TurnAt pre R0 post (32 + f) turns t bs tb) ∧ Own wr w1.heap.size 5 1 (some ⟨gb, 0, none⟩) M cb (bv bs) ∧
          Own wr w1.heap.size 60 7 (some ⟨go, 0, none⟩) q co (mv (rowM P)) ∧ Below w1.heap.size w1 wr) (fun _ i _ => 32 - (intOf i).toNat)
        case atStart => exact ⟨0, rowB P, false, rfl, rfl, by omega, ⟨R0, HPRE.out.2.2.2.2, rfl, by simp [Nat.mod_one], by simp [Nat.mod_one], fun h => by omega, by have := HPRE.out.2.2.1; omega⟩, hb', hg', dr⟩
        case round =>
          obtain ⟨t, bs, tb, rfl, rfl, ht32, hat, hb, hg, hbel⟩ := hrel
          have zz := HC.out wr hbel
          have c3 := cellAt zz (j := 3) rfl
          have c4 := cellAt zz (j := 4) rfl
          clear zz
          by_cases h32 : t < 32
          · by_cases h8 : f + t < s8
            · obtain ⟨bx, hbx, hs1', hs0'⟩ := turn_step2 hat.out HPRE.out.2.2.2.1 HPRE.out.2.2.1 h8
              have hs1 := Lib.hid hs1'
              have hs0 := Lib.hid hs0'
              have hlb : X + (f + t) / 8 < M := by have := HLE.out; omega
              clear hs1' hs0' c4
              by_cases hbit : turns / 2 ^ t % 2 = 1
              · have hb1 : bits .and .u32 ((turns : Int) / 2 ^ t) 1 = 1 := by rw [bit_and turns t hturns, hbit]; rfl
                have hcell := own_cell hb hbx
                have hfrz := own_free hb (X + (f + t) / 8)
                have hst := own_store (k := X + (f + t) / 8) hb (turnB bx ((f + t) % 8))
                have HN := Lib.hid (hs1.out hbit)
                clear hbit
                go_wp2
                go_roundw
                case rel =>
                  rw [bit_xor bx (Nat.mod_lt _ (by omega))]
                  exact ⟨t + 1, _, true, by go_num, rfl, by omega, HN.out, hst, hg.tur (Tur.of_set _ _ _) (fun k hk e => (by rcases hg.ne_ hb (by decide) with e1 | e1; cases e1; exact e1 (hk.trans (congrArg some e)))), hbel.setCell (p := ⟨gb, X + (f + t) / 8, none⟩) hgb.1 _⟩
                case measure => simp [intOf]; omega
              · have hb0 : turns / 2 ^ t % 2 = 0 := by omega
                have hb1 : bits .and .u32 ((turns : Int) / 2 ^ t) 1 = 0 := by rw [bit_and turns t hturns, hb0]; rfl
                have HN := Lib.hid (hs0.out hb0)
                clear hbit hb0
                go_wp2
                go_roundw
                case rel => exact ⟨t + 1, bs, tb, by go_num, rfl, by omega, HN.out, hb, hg, hbel⟩
                case measure => simp [intOf]; omega
            · cases tb with
              | false =>
                go_wp2
                go_ret
                exact ⟨rfl, b01.trans (hbel.mono b01.size)⟩
              | true =>
                obtain ⟨hbl, hpar⟩ := turn_parse Hok.out HPE.out.2.2.2.1 HPRE.out.1 HPRE.out.2.1 (by omega) (by have := HPRE.out.2.2.1; omega) hturns hat.out
                have hbM : M = bs.length := by
                  have := congrArg List.length HPRE.out.2.2.2.2
                  rw [List.length_append, List.length_append, ← HM.out] at this
                  omega
                have hkl : k = (rowM (P.take k)).length := by rw [rowM_len, List.length_take]; have := Hq.out; omega
                have dw := b01.trans (hbel.mono b01.size)
                have HF2 := Lib.hid (fedE bs (rowM (P.take k)) ⟨[], true⟩ k hpar hkl M hbM (some ⟨gb, 0, none⟩) cb wr.heap.size wr hb.rd (Nat.le_refl _) (own_cap hb) (by omega) zs ns (HZ.out wr dw).1 Z cz w.heap.size (HZ.out wr dw).2.1 (HZ.out wr dw).2.2 (by omega))
                have HS2 := Lib.hid (fun (W : World) (B1 B2 : Nat) (O1 O2 : Option Addr) (c1 c2 : Nat) (h1 : Own W B1 60 7 O1 k c1 (mv (rowM (P.take k)))) (h2 : Own W B2 60 7 O2 k c2 (mv (rowM (P.take k)))) => same_any (rowM (P.take k)) k hkl O1 O2 c1 c2 B1 B2 W h1 h2 (by omega))
                have hgk : Own wr w1.heap.size 60 7 (some ⟨go, 0, none⟩) k co (mv (rowM (P.take k))) := by
                  have := hg.shrinkM (m := k) (by omega)
                  rwa [show (rowM P).take k = rowM (P.take k) by simp [rowM, List.map_take]] at this
                have hco : (k : Int) ≤ (co : Int) := (by rcases hg.form with ⟨h0, _, _⟩ | ⟨_, _, _, _, h0⟩; cases h0; omega)
                clear hbM hkl hbl hpar hat
                go_wp2_with (first
                  | (go_at_call 50; go_loud (refine HF2.out.mono ?_); rintro e w5 ⟨O5, c5, A5, rfl, o5, r5, b5, s5⟩; have al : Below w5.heap.size w5 (w5.alloc (.cells #[.int .u8 1] 5)) := (Below.refl _ _).alloc (Nat.le_refl _) _; have r6 := r5.below al; have o6 := o5.below al (Nat.le_refl _); have g6 := (hgk.below b5 (Nat.le_refl _)).below al (Nat.le_refl _); have WA := Lib.hid (fun (m : Nat) => waits_any (r6.below (below_drewN (Below.refl _ _) m))); have WD := Lib.hid (fun (m : Nat) => dead_any (r6.below (below_drewN (Below.refl _ _) m))); have d6 := (dw.trans (b5.mono dw.size)).trans (al.mono (Nat.le_trans dw.size b5.size)))
                  | (go_at_call 43; go_loud (refine (feed_deadW rfl r6 1 _ _).mono ?_); rintro e w6 ⟨rfl, rfl⟩)
                  | (go_at_call 51; go_loud (refine (HS2.out _ _ _ O5 (some ⟨go, 0, none⟩) c5 co o6 g6).mono ?_); rintro e w7 ⟨rfl, m7, rfl⟩)
                  | (go_at_call 42; go_loud (refine (WD.out m7).mono ?_); rintro e w8 ⟨rfl, rfl⟩)
                  | (go_at_call 41; go_loud (refine (WA.out m7).mono ?_); rintro e w8 ⟨rfl, rfl⟩)
                  | fail)
                go_ret
                exact ⟨rfl, below_drewN d6 _⟩
          · cases tb with
            | false =>
              go_wp2
              go_ret
              exact ⟨rfl, b01.trans (hbel.mono b01.size)⟩
            | true =>
              obtain ⟨hbl, hpar⟩ := turn_parse Hok.out HPE.out.2.2.2.1 HPRE.out.1 HPRE.out.2.1 (by omega) (by have := HPRE.out.2.2.1; omega) hturns hat.out
              have hbM : M = bs.length := by
                have := congrArg List.length HPRE.out.2.2.2.2
                rw [List.length_append, List.length_append, ← HM.out] at this
                omega
              have hkl : k = (rowM (P.take k)).length := by rw [rowM_len, List.length_take]; have := Hq.out; omega
              have dw := b01.trans (hbel.mono b01.size)
              have HF2 := Lib.hid (fedE bs (rowM (P.take k)) ⟨[], true⟩ k hpar hkl M hbM (some ⟨gb, 0, none⟩) cb wr.heap.size wr hb.rd (Nat.le_refl _) (own_cap hb) (by omega) zs ns (HZ.out wr dw).1 Z cz w.heap.size (HZ.out wr dw).2.1 (HZ.out wr dw).2.2 (by omega))
              have HS2 := Lib.hid (fun (W : World) (B1 B2 : Nat) (O1 O2 : Option Addr) (c1 c2 : Nat) (h1 : Own W B1 60 7 O1 k c1 (mv (rowM (P.take k)))) (h2 : Own W B2 60 7 O2 k c2 (mv (rowM (P.take k)))) => same_any (rowM (P.take k)) k hkl O1 O2 c1 c2 B1 B2 W h1 h2 (by omega))
              have hgk : Own wr w1.heap.size 60 7 (some ⟨go, 0, none⟩) k co (mv (rowM (P.take k))) := by
                have := hg.shrinkM (m := k) (by omega)
                rwa [show (rowM P).take k = rowM (P.take k) by simp [rowM, List.map_take]] at this
              have hco : (k : Int) ≤ (co : Int) := (by rcases hg.form with ⟨h0, _, _⟩ | ⟨_, _, _, _, h0⟩; cases h0; omega)
              clear hbM hkl hbl hpar hat
              go_wp2_with (first
                | (go_at_call 50; go_loud (refine HF2.out.mono ?_); rintro e w5 ⟨O5, c5, A5, rfl, o5, r5, b5, s5⟩; have al : Below w5.heap.size w5 (w5.alloc (.cells #[.int .u8 1] 5)) := (Below.refl _ _).alloc (Nat.le_refl _) _; have r6 := r5.below al; have o6 := o5.below al (Nat.le_refl _); have g6 := (hgk.below b5 (Nat.le_refl _)).below al (Nat.le_refl _); have WA := Lib.hid (fun (m : Nat) => waits_any (r6.below (below_drewN (Below.refl _ _) m))); have WD := Lib.hid (fun (m : Nat) => dead_any (r6.below (below_drewN (Below.refl _ _) m))); have d6 := (dw.trans (b5.mono dw.size)).trans (al.mono (Nat.le_trans dw.size b5.size)))
                | (go_at_call 43; go_loud (refine (feed_deadW rfl r6 1 _ _).mono ?_); rintro e w6 ⟨rfl, rfl⟩)
                | (go_at_call 51; go_loud (refine (HS2.out _ _ _ O5 (some ⟨go, 0, none⟩) c5 co o6 g6).mono ?_); rintro e w7 ⟨rfl, m7, rfl⟩)
                | (go_at_call 42; go_loud (refine (WD.out m7).mono ?_); rintro e w8 ⟨rfl, rfl⟩)
                | (go_at_call 41; go_loud (refine (WA.out m7).mono ?_); rintro e w8 ⟨rfl, rfl⟩)
                | fail)
              go_ret
              exact ⟨rfl, below_drewN d6 _⟩


end Go.Proofs.Ytbhjcfhpabnadaa
