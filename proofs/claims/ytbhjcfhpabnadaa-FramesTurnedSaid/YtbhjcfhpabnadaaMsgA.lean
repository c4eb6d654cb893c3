/-
  frames.message, whole.
-/
import Derived.Test.YtbhjcfhpabnadaaMsgP
import Derived.Test.YtbhjcfhpabnadaaMsgS
namespace Go.Proofs.Ytbhjcfhpabnadaa
open Go.RowKit

theorem drop_len {t : List UInt8} {s : Nat} (h : s ≤ t.length) : t.length = s + (t.drop s).length := by rw [List.length_drop]; omega
theorem take_le (t : List UInt8) (s : Nat) : (t.take s).length ≤ s := by rw [List.length_take]; omega
theorem x_of {x : UInt8} {k : Nat} (h : x.toNat = k) : x = UInt8.ofNat k := by rw [← h]; simp

section
variable {x : UInt8} {t : List UInt8}
theorem ref3 (hx : x.toNat = 3) : refMsg (x :: t) = ⟨3, ⟨#[]⟩, nul ((t.drop 8).take 8), 0, nul (t.take 8), 0, ⟨#[]⟩⟩ := by simp [refMsg, hx]
theorem ref5 (hx : x.toNat = 5) : refMsg (x :: t) = ⟨5, ⟨#[]⟩, 0, 0, nul (t.take 8), 0, ⟨#[]⟩⟩ := by simp [refMsg, hx]
theorem ref4 (hx : x.toNat = 4) : refMsg (x :: t) = ⟨4, ⟨#[]⟩, nul ((t.drop 8).take 8), 0, nul (t.take 8), nul ((t.drop 16).take 2), ⟨#[]⟩⟩ := by simp [refMsg, hx]
theorem ref2 (hx : x.toNat = 2) : refMsg (x :: t) = ⟨2, ⟨#[]⟩, nul ((t.drop 16).take 8), nul ((t.drop 8).take 8), nul (t.take 8), 0, str ((t.drop 28).take 1048576)⟩ := by simp [refMsg, hx]
theorem ref1 (hx : x.toNat = 1) : refMsg (x :: t) = ⟨1, str ((t.drop 1).take (be (t.take 1))), nul ((t.drop (1 + be (t.take 1))).take 8), 0, 0, 0, ⟨#[]⟩⟩ := by
  have : 2 + be (t.take 1) = (1 + be (t.take 1)) + 1 := by omega
  simp [refMsg, hx, this]
theorem refo (h1 : x.toNat ≠ 1) (h2 : x.toNat ≠ 2) (h3 : x.toNat ≠ 3) (h4 : x.toNat ≠ 4) (h5 : x.toNat ≠ 5) : refMsg (x :: t) = ⟨x.toNat, ⟨#[]⟩, 0, 0, 0, 0, ⟨#[]⟩⟩ := by simp [refMsg, h1, h2, h3, h4, h5]
theorem payo {k : Int} {name text : ByteArray} {a b c d : Int} (h1 : k ≠ 1) (h2 : k ≠ 2) (h3 : k ≠ 3) (h4 : k ≠ 4) (h5 : k ≠ 5) : paySpec k name text a b c d = none := by
  unfold paySpec
  rw [if_neg h1, if_neg h2, if_neg h3, if_neg h4, if_neg h5]
end

theorem drop24 {a b c r : List UInt8} (ha : a.length = 8) (hb : b.length = 8) (hc : c.length = 8) : (a ++ (b ++ (c ++ r))).drop 24 = r := by
  rw [← List.append_assoc, ← List.append_assoc]
  exact List.drop_left' (by simp [ha, hb, hc])
theorem be_one (x : UInt8) : be [x] = x.toNat := by simp [be]
theorem k_of (x : UInt8) (t : List UInt8) : (x.toNat : Int) = IntKind.i64.wrap (be ((x :: t).take 1)) := by
  rw [show (x :: t).take 1 = [x] by simp, be_one, IntKind.wrap_i64]
  have := x.toNat_lt
  omega
variable (n : Nat) (A : Option Addr) (c : Nat) (B : Nat) (w : World)

theorem msgA3 (x : UInt8) (t : List UInt8) (hx : x.toNat = 3) (hn : n = (x :: t).length) (hA : A = none → c = 0) (hc : n ≤ c) (hr : Rd w B A (bv (x :: t))) (hB : B ≤ w.heap.size) (hl : n ≤ 1048576) : Calls Try.prog 62 #[.slice A n c] w (MsgOut w (msgS (x :: t))) := by
  have hk := k_of x t
  rw [hx] at hk
  have hn1 : n = 1 + t.length := by rw [hn, List.length_cons]; omega
  have hX : payM (refMsg (x :: t)) = paySpec 3 ⟨#[]⟩ ⟨#[]⟩ (wrl ((t.drop 8).take 8)) 0 (wrl (t.take 8)) 0 := by
    rw [ref3 hx]
    exact (swap3 (wn (take_le _ _)) (wn (take_le _ _))).symm
  have hlen : (x :: t).length = t.length + 1 := by simp
  by_cases h1 : t.length < 8
  · rw [msgS_none (fun h => by have := valid3 (hX.symm.trans h); omega)]
    exact m_3_a _ n hn A c hA hc B w hr hB (by omega) t _ rfl hn1 hk rfl h1
  have e1 := drop_len (t := t) (s := 8) (by omega)
  by_cases h2 : (t.drop 8).length < 8
  · rw [msgS_none (fun h => by have := valid3 (hX.symm.trans h); omega)]
    exact m_3_b _ n hn A c hA hc B w hr hB (by omega) t _ rfl hn1 hk rfl (wrl (t.take 8)) (t.drop 8) _ rfl e1 rfl rfl h2
  have e2 := drop_len (t := t.drop 8) (s := 8) (by omega)
  cases hq : paySpec 3 ⟨#[]⟩ ⟨#[]⟩ (wrl ((t.drop 8).take 8)) 0 (wrl (t.take 8)) 0 with
  | none =>
    rw [msgS_none (fun h => by rw [hX, hq] at h; cases h)]
    exact m_3_n _ n hn A c hA hc B w hr hB (by omega) t _ rfl hn1 hk rfl (wrl (t.take 8)) (t.drop 8) _ rfl e1 rfl rfl (wrl ((t.drop 8).take 8)) ((t.drop 8).drop 8) _ rfl e2 rfl rfl hq
  | some q =>
    obtain ⟨q1, q2, q3, q4⟩ := valid3 hq
    by_cases h3 : 0 < ((t.drop 8).drop 8).length
    · rw [msgS_none (fun h => by rw [hX, hq] at h; injection h with h; rw [h] at q4; omega)]
      exact m_3_m _ n hn A c hA hc B w hr hB (by omega) t _ rfl hn1 hk rfl (wrl (t.take 8)) (t.drop 8) _ rfl e1 rfl rfl (wrl ((t.drop 8).take 8)) ((t.drop 8).drop 8) _ rfl e2 rfl rfl q hq h3
    · obtain ⟨w1, w2⟩ := wn_eq (take_le t 8) q1
      obtain ⟨w3, w4⟩ := wn_eq (take_le (t.drop 8) 8) q2
      have hqb : q = x :: t := by
        rw [q3, w1, w2, w3, w4, beN_be 8 _ (by rw [List.length_take]; omega), beN_be 8 _ (by rw [List.length_take]; omega)]
        have hd : (t.drop 8).take 8 = t.drop 8 := List.take_of_length_le (by omega)
        rw [hd, x_of hx]
        simp
      rw [msgS_some (by simp) (ref3 hx) (by rw [← w1, ← w3]; exact hq.trans (by rw [hqb])), ← w1, ← w3]
      exact m_3_g _ n hn A c hA hc B w hr hB (by omega) t _ rfl hn1 hk rfl (wrl (t.take 8)) (t.drop 8) _ rfl e1 rfl rfl (wrl ((t.drop 8).take 8)) ((t.drop 8).drop 8) _ rfl e2 rfl rfl q hq (by omega)

theorem msgA5 (x : UInt8) (t : List UInt8) (hx : x.toNat = 5) (hn : n = (x :: t).length) (hA : A = none → c = 0) (hc : n ≤ c) (hr : Rd w B A (bv (x :: t))) (hB : B ≤ w.heap.size) (hl : n ≤ 1048576) : Calls Try.prog 62 #[.slice A n c] w (MsgOut w (msgS (x :: t))) := by
  have hk := k_of x t
  rw [hx] at hk
  have hn1 : n = 1 + t.length := by rw [hn, List.length_cons]; omega
  have hX : payM (refMsg (x :: t)) = paySpec 5 ⟨#[]⟩ ⟨#[]⟩ 0 0 (wrl (t.take 8)) 0 := by
    rw [ref5 hx]
    exact (swap5 (wn (take_le _ _))).symm
  have hlen : (x :: t).length = t.length + 1 := by simp
  by_cases h1 : t.length < 8
  · rw [msgS_none (fun h => by have := valid5 (hX.symm.trans h); omega)]
    exact m_5_a _ n hn A c hA hc B w hr hB (by omega) t _ rfl hn1 hk rfl h1
  have e1 := drop_len (t := t) (s := 8) (by omega)
  cases hq : paySpec 5 ⟨#[]⟩ ⟨#[]⟩ 0 0 (wrl (t.take 8)) 0 with
  | none =>
    rw [msgS_none (fun h => by rw [hX, hq] at h; cases h)]
    exact m_5_n _ n hn A c hA hc B w hr hB (by omega) t _ rfl hn1 hk rfl (wrl (t.take 8)) (t.drop 8) _ rfl e1 rfl rfl hq
  | some q =>
    obtain ⟨q1, q3, q4⟩ := valid5 hq
    by_cases h3 : 0 < (t.drop 8).length
    · rw [msgS_none (fun h => by rw [hX, hq] at h; injection h with h; rw [h] at q4; omega)]
      exact m_5_m _ n hn A c hA hc B w hr hB (by omega) t _ rfl hn1 hk rfl (wrl (t.take 8)) (t.drop 8) _ rfl e1 rfl rfl q hq h3
    · obtain ⟨w1, w2⟩ := wn_eq (take_le t 8) q1
      have hqb : q = x :: t := by
        rw [q3, w1, w2, beN_be 8 _ (by rw [List.length_take]; omega)]
        have hd : t.take 8 = t := List.take_of_length_le (by omega)
        rw [hd, x_of hx]
        simp
      rw [msgS_some (by simp) (ref5 hx) (by rw [← w1]; exact hq.trans (by rw [hqb])), ← w1]
      exact m_5_g _ n hn A c hA hc B w hr hB (by omega) t _ rfl hn1 hk rfl (wrl (t.take 8)) (t.drop 8) _ rfl e1 rfl rfl q hq (by omega)

theorem msgAo (x : UInt8) (t : List UInt8) (h1 : x.toNat ≠ 1) (h2 : x.toNat ≠ 2) (h3 : x.toNat ≠ 3) (h4 : x.toNat ≠ 4) (h5 : x.toNat ≠ 5) (hn : n = (x :: t).length) (hA : A = none → c = 0) (hc : n ≤ c) (hr : Rd w B A (bv (x :: t))) (hB : B ≤ w.heap.size) (hl : n ≤ 1048576) : Calls Try.prog 62 #[.slice A n c] w (MsgOut w (msgS (x :: t))) := by
  have hk := k_of x t
  have hn1 : n = 1 + t.length := by rw [hn, List.length_cons]; omega
  have hX : payM (refMsg (x :: t)) = none := by
    rw [refo h1 h2 h3 h4 h5]
    exact payo (by simp only; omega) (by simp only; omega) (by simp only; omega) (by simp only; omega) (by simp only; omega)
  rw [msgS_none (fun h => by rw [hX] at h; cases h)]
  have kk : ((x.toNat : Int) == 1) = false ∧ ((x.toNat : Int) == 2) = false ∧ ((x.toNat : Int) == 4) = false ∧ ((x.toNat : Int) != 5) = true := by
    refine ⟨?_, ?_, ?_, ?_⟩
    · rw [beq_eq_false_iff_ne]; omega
    · rw [beq_eq_false_iff_ne]; omega
    · rw [beq_eq_false_iff_ne]; omega
    · rw [bne_iff_ne]; omega
  by_cases g1 : t.length < 8
  · exact m_o_a _ n hn A c hA hc B w hr hB (by omega) _ kk t _ rfl hn1 hk rfl g1
  have e1 := drop_len (t := t) (s := 8) (by omega)
  by_cases g2 : (t.drop 8).length < 8
  · exact m_o_b _ n hn A c hA hc B w hr hB (by omega) _ kk t _ rfl hn1 hk rfl (wrl (t.take 8)) (t.drop 8) _ rfl e1 rfl rfl g2
  have e2 := drop_len (t := t.drop 8) (s := 8) (by omega)
  exact m_o_n _ n hn A c hA hc B w hr hB (by omega) _ kk t _ rfl hn1 hk rfl (wrl (t.take 8)) (t.drop 8) _ rfl e1 rfl rfl (wrl ((t.drop 8).take 8)) ((t.drop 8).drop 8) _ rfl e2 rfl rfl (payo (by omega) (by omega) (by omega) (by omega) (by omega))

theorem msgA4 (x : UInt8) (t : List UInt8) (hx : x.toNat = 4) (hn : n = (x :: t).length) (hA : A = none → c = 0) (hc : n ≤ c) (hr : Rd w B A (bv (x :: t))) (hB : B ≤ w.heap.size) (hl : n ≤ 1048576) : Calls Try.prog 62 #[.slice A n c] w (MsgOut w (msgS (x :: t))) := by
  have hk := k_of x t
  rw [hx] at hk
  have hn1 : n = 1 + t.length := by rw [hn, List.length_cons]; omega
  have hd16 : (t.drop 8).drop 8 = t.drop 16 := by rw [List.drop_drop]
  obtain ⟨s1, s2, s3⟩ := nul_small (l := ((t.drop 8).drop 8).take 2) (Nat.le_trans (take_le _ _) (by omega))
  have hsm : wrl (((t.drop 8).drop 8).take 2) = nul (((t.drop 8).drop 8).take 2) := s2.trans s1.symm
  have hX : payM (refMsg (x :: t)) = paySpec 4 ⟨#[]⟩ ⟨#[]⟩ (wrl ((t.drop 8).take 8)) 0 (wrl (t.take 8)) (wrl (((t.drop 8).drop 8).take 2)) := by
    rw [ref4 hx, hsm, hd16]
    exact (swap4 (wn (take_le _ _)) (wn (take_le _ _))).symm
  have hlen : (x :: t).length = t.length + 1 := by simp
  by_cases h1 : t.length < 8
  · rw [msgS_none (fun h => by have := valid4 (hX.symm.trans h); omega)]
    exact m_4_a _ n hn A c hA hc B w hr hB (by omega) t _ rfl hn1 hk rfl h1
  have e1 := drop_len (t := t) (s := 8) (by omega)
  by_cases h2 : (t.drop 8).length < 8
  · rw [msgS_none (fun h => by have := valid4 (hX.symm.trans h); omega)]
    exact m_4_b _ n hn A c hA hc B w hr hB (by omega) t _ rfl hn1 hk rfl (wrl (t.take 8)) (t.drop 8) _ rfl e1 rfl rfl h2
  have e2 := drop_len (t := t.drop 8) (s := 8) (by omega)
  by_cases h2b : ((t.drop 8).drop 8).length < 2
  · rw [msgS_none (fun h => by have := valid4 (hX.symm.trans h); omega)]
    exact m_4_c _ n hn A c hA hc B w hr hB (by omega) t _ rfl hn1 hk rfl (wrl (t.take 8)) (t.drop 8) _ rfl e1 rfl rfl (wrl ((t.drop 8).take 8)) ((t.drop 8).drop 8) _ rfl e2 rfl rfl h2b
  have e3 := drop_len (t := (t.drop 8).drop 8) (s := 2) (by omega)
  cases hq : paySpec 4 ⟨#[]⟩ ⟨#[]⟩ (wrl ((t.drop 8).take 8)) 0 (wrl (t.take 8)) (wrl (((t.drop 8).drop 8).take 2)) with
  | none =>
    rw [msgS_none (fun h => by rw [hX, hq] at h; cases h)]
    exact m_4_n _ n hn A c hA hc B w hr hB (by omega) t _ rfl hn1 hk rfl (wrl (t.take 8)) (t.drop 8) _ rfl e1 rfl rfl (wrl ((t.drop 8).take 8)) ((t.drop 8).drop 8) _ rfl e2 rfl rfl (wrl (((t.drop 8).drop 8).take 2)) (((t.drop 8).drop 8).drop 2) _ rfl e3 rfl rfl hq
  | some q =>
    obtain ⟨q1, q2, q2b, q3, q4⟩ := valid4 hq
    by_cases h3 : 0 < (((t.drop 8).drop 8).drop 2).length
    · rw [msgS_none (fun h => by rw [hX, hq] at h; injection h with h; rw [h] at q4; omega)]
      exact m_4_m _ n hn A c hA hc B w hr hB (by omega) t _ rfl hn1 hk rfl (wrl (t.take 8)) (t.drop 8) _ rfl e1 rfl rfl (wrl ((t.drop 8).take 8)) ((t.drop 8).drop 8) _ rfl e2 rfl rfl (wrl (((t.drop 8).drop 8).take 2)) (((t.drop 8).drop 8).drop 2) _ rfl e3 rfl rfl q hq h3
    · obtain ⟨w1, w2⟩ := wn_eq (take_le t 8) q1
      obtain ⟨w3, w4⟩ := wn_eq (take_le (t.drop 8) 8) q2
      have hn64 : nat64 (wrl (((t.drop 8).drop 8).take 2)) = be (((t.drop 8).drop 8).take 2) := by rw [s2]; unfold nat64; omega
      have hqb : q = x :: t := by
        rw [q3, w1, w2, w3, w4, hn64, beN_be 8 _ (by rw [List.length_take]; omega), beN_be 8 _ (by rw [List.length_take]; omega), beN_be 2 _ (by rw [List.length_take]; omega)]
        have hd : ((t.drop 8).drop 8).take 2 = (t.drop 8).drop 8 := List.take_of_length_le (by omega)
        rw [hd, x_of hx, List.append_assoc, List.append_assoc, List.take_append_drop, List.take_append_drop]
        rfl
      have hm : refMsg (x :: t) = ⟨4, ⟨#[]⟩, wrl ((t.drop 8).take 8), 0, wrl (t.take 8), wrl (((t.drop 8).drop 8).take 2), ⟨#[]⟩⟩ := by rw [ref4 hx, w1, w3, hsm, hd16]
      rw [msgS_some (by simp) hm (hq.trans (by rw [hqb]))]
      exact m_4_g _ n hn A c hA hc B w hr hB (by omega) t _ rfl hn1 hk rfl (wrl (t.take 8)) (t.drop 8) _ rfl e1 rfl rfl (wrl ((t.drop 8).take 8)) ((t.drop 8).drop 8) _ rfl e2 rfl rfl (wrl (((t.drop 8).drop 8).take 2)) (((t.drop 8).drop 8).drop 2) _ rfl e3 rfl rfl q hq (by omega)

theorem msgA2 (x : UInt8) (t : List UInt8) (hx : x.toNat = 2) (hn : n = (x :: t).length) (hA : A = none → c = 0) (hc : n ≤ c) (hr : Rd w B A (bv (x :: t))) (hB : B ≤ w.heap.size) (hl : n ≤ 1048576) : Calls Try.prog 62 #[.slice A n c] w (MsgOut w (msgS (x :: t))) := by
  have hk := k_of x t
  rw [hx] at hk
  have hn1 : n = 1 + t.length := by rw [hn, List.length_cons]; omega
  obtain ⟨b2, hb2⟩ : ∃ b2, b2 = t.drop 8 := ⟨_, rfl⟩
  obtain ⟨b3, hb3⟩ : ∃ b3, b3 = b2.drop 8 := ⟨_, rfl⟩
  obtain ⟨b4, hb4⟩ : ∃ b4, b4 = b3.drop 8 := ⟨_, rfl⟩
  obtain ⟨b5, hb5⟩ : ∃ b5, b5 = b4.drop 4 := ⟨_, rfl⟩
  have h16 : t.drop 16 = b3 := by rw [hb3, hb2, List.drop_drop]
  have h28 : t.drop 28 = b5 := by rw [hb5, hb4, hb3, hb2, List.drop_drop, List.drop_drop, List.drop_drop]
  have hlen : (x :: t).length = t.length + 1 := by simp
  have l2 : b2.length = t.length - 8 := by rw [hb2, List.length_drop]
  have l3 : b3.length = b2.length - 8 := by rw [hb3, List.length_drop]
  have l4 : b4.length = b3.length - 8 := by rw [hb4, List.length_drop]
  have l5 : b5.length = b4.length - 4 := by rw [hb5, List.length_drop]
  have ht5 : b5.take 1048576 = b5 := List.take_of_length_le (by omega)
  have hX : payM (refMsg (x :: t)) = paySpec 2 ⟨#[]⟩ (str b5) (wrl (b3.take 8)) (wrl (b2.take 8)) (wrl (t.take 8)) 0 := by
    rw [ref2 hx, h16, h28, ht5, ← hb2]
    exact (swap2 (wn (take_le _ _)) (wn (take_le _ _)) (wn (take_le _ _))).symm
  have hval : ∀ q, payM (refMsg (x :: t)) = some q → q.length = 29 + b5.length := fun q h => by
    have := (valid2 (hX.symm.trans h)).2.2.2.2.2
    rw [str_size] at this
    exact this
  by_cases h1 : t.length < 8
  · rw [msgS_none (fun h => by have := hval _ h; omega)]
    exact m_2_a _ n hn A c hA hc B w hr hB (by omega) t _ rfl hn1 hk rfl h1
  have e1 : t.length = 8 + b2.length := by omega
  by_cases h2 : b2.length < 8
  · rw [msgS_none (fun h => by have := hval _ h; omega)]
    exact m_2_b _ n hn A c hA hc B w hr hB (by omega) t _ rfl hn1 hk rfl (wrl (t.take 8)) b2 _ rfl e1 rfl hb2 h2
  have e2 : b2.length = 8 + b3.length := by omega
  by_cases h2b : b3.length < 8
  · rw [msgS_none (fun h => by have := hval _ h; omega)]
    exact m_2_c _ n hn A c hA hc B w hr hB (by omega) t _ rfl hn1 hk rfl (wrl (t.take 8)) b2 _ rfl e1 rfl hb2 (wrl (b2.take 8)) b3 _ rfl e2 rfl hb3 h2b
  have e3 : b3.length = 8 + b4.length := by omega
  by_cases h2c : b4.length < 4
  · rw [msgS_none (fun h => by have := hval _ h; omega)]
    exact m_2_d _ n hn A c hA hc B w hr hB (by omega) t _ rfl hn1 hk rfl (wrl (t.take 8)) b2 _ rfl e1 rfl hb2 (wrl (b2.take 8)) b3 _ rfl e2 rfl hb3 (wrl (b3.take 8)) b4 _ rfl e3 rfl hb4 h2c
  have e4 : b4.length = 4 + b5.length := by omega
  obtain ⟨s1, s2, s3⟩ := nul_small (l := b4.take 4) (take_le _ _)
  have hV4 : ((be (b4.take 4) : Nat) : Int) = IntKind.i64.wrap (be (b4.take 4)) := s2.symm
  have hpa : t.take 8 ++ (b2.take 8 ++ (b3.take 8 ++ (b4.take 4 ++ b5))) = t := by
    rw [hb5, List.take_append_drop, hb4, List.take_append_drop, hb3, List.take_append_drop, hb2, List.take_append_drop]
  by_cases hne : be (b4.take 4) = b5.length
  · have hne2 : (((be (b4.take 4) : Nat) : Int) != (b5.length : Int)) = false := by rw [hne]; simp
    cases hq : paySpec 2 ⟨#[]⟩ (str b5) (wrl (b3.take 8)) (wrl (b2.take 8)) (wrl (t.take 8)) 0 with
    | none =>
      rw [msgS_none (fun h => by rw [hX, hq] at h; cases h)]
      exact m_2_n _ n hn A c hA hc B w hr hB (by omega) t _ rfl hn1 hk rfl (wrl (t.take 8)) b2 _ rfl e1 rfl hb2 (wrl (b2.take 8)) b3 _ rfl e2 rfl hb3 (wrl (b3.take 8)) b4 _ rfl e3 rfl hb4 _ b5 _ rfl e4 hV4 hb5 hq hne2
    | some q =>
      obtain ⟨q1, q2, q2b, q2c, q3, q4⟩ := valid2 hq
      obtain ⟨w1, w2⟩ := wn_eq (take_le t 8) q1
      obtain ⟨w3, w4⟩ := wn_eq (take_le b2 8) q2
      obtain ⟨w5, w6⟩ := wn_eq (take_le b3 8) q2b
      have hqb : q = x :: t := by
        rw [q3, w1, w2, w3, w4, w5, w6, str_size, ← hne, sB_str, beN_be 8 _ (by rw [List.length_take]; omega), beN_be 8 _ (by rw [List.length_take]; omega), beN_be 8 _ (by rw [List.length_take]; omega), beN_be 4 _ (by rw [List.length_take]; omega)]
        rw [List.append_assoc, List.append_assoc, List.append_assoc, List.append_assoc, hpa, x_of hx]
        rfl
      have hm : refMsg (x :: t) = ⟨2, ⟨#[]⟩, wrl (b3.take 8), wrl (b2.take 8), wrl (t.take 8), 0, str b5⟩ := by rw [ref2 hx, h16, h28, ht5, ← hb2, w1, w3, w5]
      rw [msgS_some (by simp) hm (hq.trans (by rw [hqb]))]
      exact m_2_g _ n hn A c hA hc B w hr hB (by omega) t _ rfl hn1 hk rfl (wrl (t.take 8)) b2 _ rfl e1 rfl hb2 (wrl (b2.take 8)) b3 _ rfl e2 rfl hb3 (wrl (b3.take 8)) b4 _ rfl e3 rfl hb4 _ b5 _ rfl e4 hV4 hb5 q hq hne2
  · have hne2 : (((be (b4.take 4) : Nat) : Int) != (b5.length : Int)) = true := by rw [bne_iff_ne]; omega
    rw [msgS_none (fun h => by
      obtain ⟨q1, q2, q2b, q2c, q3, q4⟩ := valid2 (hX.symm.trans h)
      rw [str_size] at q2c q3
      rw [sB_str] at q3
      have ht : t = beN (nat64 (wrl (t.take 8))) 8 ++ (beN (nat64 (wrl (b2.take 8))) 8 ++ (beN (nat64 (wrl (b3.take 8))) 8 ++ (beN b5.length 4 ++ b5))) := by
        have := congrArg (List.drop 1) q3
        simpa [List.append_assoc] using this
      have h4 : b4 = beN b5.length 4 ++ b5 := by
        have e : b4 = t.drop 24 := by rw [hb4, hb3, hb2, List.drop_drop, List.drop_drop]
        rw [e]
        exact (congrArg (List.drop 24) ht).trans (drop24 (beN_len _ _) (beN_len _ _) (beN_len _ _))
      have hlt : b5.length < 256 ^ 4 := by
        have : (256 : Nat) ^ 4 = 4294967296 := rfl
        omega
      have h5 : be ((beN b5.length 4 ++ b5).take 4) = b5.length := by
        rw [List.take_append_of_le_length (Nat.le_of_eq (beN_len _ _).symm), List.take_of_length_le (Nat.le_of_eq (beN_len _ _))]
        exact be_beN 4 _ hlt
      rw [← h4] at h5
      exact hne h5)]
    exact m_2_e _ n hn A c hA hc B w hr hB (by omega) t _ rfl hn1 hk rfl (wrl (t.take 8)) b2 _ rfl e1 rfl hb2 (wrl (b2.take 8)) b3 _ rfl e2 rfl hb3 (wrl (b3.take 8)) b4 _ rfl e3 rfl hb4 _ b5 _ rfl e4 hV4 hb5 hne2

theorem msgA1 (x : UInt8) (t : List UInt8) (hx : x.toNat = 1) (hn : n = (x :: t).length) (hA : A = none → c = 0) (hc : n ≤ c) (hr : Rd w B A (bv (x :: t))) (hB : B ≤ w.heap.size) (hl : n ≤ 1048576) : Calls Try.prog 62 #[.slice A n c] w (MsgOut w (msgS (x :: t))) := by
  have hk := k_of x t
  rw [hx] at hk
  have hn1 : n = 1 + t.length := by rw [hn, List.length_cons]; omega
  have hlen : (x :: t).length = t.length + 1 := by simp
  obtain ⟨s1, s2, s3⟩ := nul_small (l := t.take 1) (Nat.le_trans (take_le _ _) (by omega))
  obtain ⟨m1, hm1⟩ : ∃ m1, m1 = be (t.take 1) := ⟨_, rfl⟩
  obtain ⟨b2, hb2⟩ : ∃ b2, b2 = t.drop 1 := ⟨_, rfl⟩
  obtain ⟨b9, hb9⟩ : ∃ b9, b9 = b2.drop m1 := ⟨_, rfl⟩
  have hV1 : (m1 : Int) = IntKind.i64.wrap (be (t.take 1)) := by rw [hm1]; exact s2.symm
  have l2 : b2.length = t.length - 1 := by rw [hb2, List.length_drop]
  have l9 : b9.length = b2.length - m1 := by rw [hb9, List.length_drop]
  have hd9 : t.drop (1 + m1) = b9 := by rw [hb9, hb2, List.drop_drop]
  have hX : payM (refMsg (x :: t)) = paySpec 1 (str (b2.take m1)) ⟨#[]⟩ (wrl (b9.take 8)) 0 0 0 := by
    rw [ref1 hx, ← hm1, hd9, ← hb2]
    exact (swap1 (wn (take_le _ _))).symm
  have hval : ∀ q, payM (refMsg (x :: t)) = some q → q.length = 10 + min m1 b2.length ∧ 1 ≤ min m1 b2.length := fun q h => by
    have h9 := valid1 (hX.symm.trans h)
    rw [str_size, List.length_take] at h9
    exact ⟨h9.2.2.2.2, h9.1⟩
  by_cases h1 : t.length < 1
  · rw [msgS_none (fun h => by have := hval _ h; omega)]
    exact m_1_a _ n hn A c hA hc B w hr hB (by omega) t _ rfl hn1 hk rfl h1
  have e1 : t.length = 1 + b2.length := by omega
  by_cases hgt : b2.length < m1
  · rw [msgS_none (fun h => by have := hval _ h; omega)]
    exact m_1_b _ n hn A c hA hc B w hr hB (by omega) t _ rfl hn1 hk rfl m1 b2 _ rfl e1 hV1 hb2 (by omega)
  have hmn : b2.length = m1 + b9.length := by omega
  by_cases h2 : b9.length < 8
  · rw [msgS_none (fun h => by have := hval _ h; omega)]
    exact m_1_c _ n hn A c hA hc B w hr hB (by omega) t _ rfl hn1 hk rfl m1 b2 _ rfl e1 hV1 hb2 b9 _ rfl hmn hb9 h2
  have e3 := drop_len (t := b9) (s := 8) (by omega)
  cases hq : paySpec 1 (str (b2.take m1)) ⟨#[]⟩ (wrl (b9.take 8)) 0 0 0 with
  | none =>
    rw [msgS_none (fun h => by rw [hX, hq] at h; cases h)]
    exact m_1_n _ n hn A c hA hc B w hr hB (by omega) t _ rfl hn1 hk rfl m1 b2 _ rfl e1 hV1 hb2 b9 _ rfl hmn hb9 (wrl (b9.take 8)) (b9.drop 8) _ rfl e3 rfl rfl hq
  | some q =>
    obtain ⟨q1, q2, q2b, q3, q4⟩ := valid1 hq
    rw [str_size, List.length_take] at q4
    by_cases h3 : 0 < (b9.drop 8).length
    · rw [msgS_none (fun h => by rw [hX, hq] at h; injection h with h; rw [h] at q4; omega)]
      exact m_1_m _ n hn A c hA hc B w hr hB (by omega) t _ rfl hn1 hk rfl m1 b2 _ rfl e1 hV1 hb2 b9 _ rfl hmn hb9 (wrl (b9.take 8)) (b9.drop 8) _ rfl e3 rfl rfl q hq h3
    · obtain ⟨w1, w2⟩ := wn_eq (take_le b9 8) q2b
      have hqb : q = x :: t := by
        have hx1 : t = UInt8.ofNat m1 :: b2 := by
          cases t with
          | nil => simp at h1
          | cons y r =>
            have : m1 = y.toNat := by rw [hm1]; simp [be]
            rw [hb2, this]
            simp
        have hs : (str (b2.take m1)).size = m1 := by rw [str_size, List.length_take]; omega
        rw [q3, w1, w2, hs, sB_str, beN_be 8 _ (by rw [List.length_take]; omega)]
        have hd : b9.take 8 = b9 := List.take_of_length_le (by omega)
        rw [hd, hb9, List.append_assoc, List.take_append_drop, x_of hx]
        conv => rhs; rw [hx1]
        rfl
      have hm : refMsg (x :: t) = ⟨1, str (b2.take m1), wrl (b9.take 8), 0, 0, 0, ⟨#[]⟩⟩ := by rw [ref1 hx, ← hm1, hd9, ← hb2, w1]
      rw [msgS_some (by simp) hm (hq.trans (by rw [hqb]))]
      exact m_1_g _ n hn A c hA hc B w hr hB (by omega) t _ rfl hn1 hk rfl m1 b2 _ rfl e1 hV1 hb2 b9 _ rfl hmn hb9 (wrl (b9.take 8)) (b9.drop 8) _ rfl e3 rfl rfl q hq (by omega)

theorem message_any (b : List UInt8) (hn : n = b.length) (hA : A = none → c = 0) (hc : n ≤ c) (hr : Rd w B A (bv b)) (hB : B ≤ w.heap.size) (hl : n ≤ 1048576) : Calls Try.prog 62 #[.slice A n c] w (MsgOut w (msgS b)) := by
  cases b with
  | nil =>
    have : msgS [] = none := by unfold msgS; rw [if_neg (fun h => h.1 rfl)]
    rw [this]
    exact m_e0 [] n hn A c hc B w hr hB (by omega) (by rw [hn]; simp)
  | cons x t =>
    by_cases h1 : x.toNat = 1
    · exact msgA1 n A c B w x t h1 hn hA hc hr hB hl
    by_cases h2 : x.toNat = 2
    · exact msgA2 n A c B w x t h2 hn hA hc hr hB hl
    by_cases h3 : x.toNat = 3
    · exact msgA3 n A c B w x t h3 hn hA hc hr hB hl
    by_cases h4 : x.toNat = 4
    · exact msgA4 n A c B w x t h4 hn hA hc hr hB hl
    by_cases h5 : x.toNat = 5
    · exact msgA5 n A c B w x t h5 hn hA hc hr hB hl
    exact msgAo n A c B w x t h1 h2 h3 h4 h5 hn hA hc hr hB hl

end Go.Proofs.Ytbhjcfhpabnadaa
