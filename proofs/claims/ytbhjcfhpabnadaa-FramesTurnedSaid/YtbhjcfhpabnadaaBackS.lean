/-
  What is written is read back: the plain law of FramesBack. No program in sight.
-/
import Derived.Test.YtbhjcfhpabnadaaDecP
import Derived.Test.YtbhjcfhpabnadaaFramedS
namespace Go.Proofs.Ytbhjcfhpabnadaa
open Go.RowKit

theorem nul_beN {n : Int} (h : mayS n = true) : nul (beN (nat64 n) 8) = n := by
  have h1 := nat64_may h
  have h2 := mayS_true h
  have h3 : (256 : Nat) ^ 8 = 18446744073709551616 := rfl
  unfold nul
  rw [h1, be_beN 8 n.toNat (by omega), if_neg (by omega)]
  omega

/-- A message with what its kind does not name zero. -/
def plainM (m : Msg) : Msg :=
  if m.kind = 1 then ⟨m.kind, m.name, m.version, 0, 0, 0, ⟨#[]⟩⟩
  else if m.kind = 2 then ⟨m.kind, ⟨#[]⟩, m.version, m.frm, m.nonce, 0, m.text⟩
  else if m.kind = 3 then ⟨m.kind, ⟨#[]⟩, m.version, 0, m.nonce, 0, ⟨#[]⟩⟩
  else if m.kind = 4 then ⟨m.kind, ⟨#[]⟩, m.version, 0, m.nonce, m.err, ⟨#[]⟩⟩
  else ⟨m.kind, ⟨#[]⟩, 0, 0, m.nonce, 0, ⟨#[]⟩⟩

theorem pay_plain (m : Msg) : payM (plainM m) = payM m := by
  by_cases h1 : m.kind = 1
  · simp [payM, plainM, paySpec, h1]
  by_cases h2 : m.kind = 2
  · simp [payM, plainM, paySpec, h2]
  by_cases h3 : m.kind = 3
  · simp [payM, plainM, paySpec, h3]
  by_cases h4 : m.kind = 4
  · simp [payM, plainM, paySpec, h4]
  by_cases h5 : m.kind = 5
  · simp [payM, plainM, paySpec, h5]
  · simp [payM, plainM, paySpec, h1, h2, h3, h4, h5]

theorem str_sB (s : ByteArray) : str (sB s) = s := rfl

theorem msgS_pay {m : Msg} {p : List UInt8} (h : payM m = some p) : msgS p = some (plainM m) := by
  have hq := h
  rw [← pay_plain] at hq
  by_cases h1 : m.kind = 1
  · have hs : paySpec 1 m.name ⟨#[]⟩ m.version 0 0 0 = some p := by simpa [payM, plainM, h1] using hq
    obtain ⟨a1, a2, a3, rfl, _⟩ := valid1 hs
    refine msgS_some (by simp) ?_ hq
    have hn : be [UInt8.ofNat m.name.size] = m.name.size := by
      rw [be_one, UInt8.toNat_ofNat_of_lt' (by simp [UInt8.size]; omega)]
    show refMsg ((1 : UInt8) :: (([UInt8.ofNat m.name.size] ++ sB m.name) ++ beN (nat64 m.version) 8)) = _
    rw [ref1 rfl]
    obtain ⟨C, hC⟩ : ∃ C, C = beN (nat64 m.version) 8 := ⟨_, rfl⟩
    have lC : C.length = 8 := by rw [hC, beN_len]
    rw [← hC]
    rw [show (([UInt8.ofNat m.name.size] ++ sB m.name) ++ C).take 1 = [UInt8.ofNat m.name.size] by simp, hn,
      show (([UInt8.ofNat m.name.size] ++ sB m.name) ++ C).drop (1 + m.name.size) = C from List.drop_left' (by simp [sB_len]; omega),
      show (([UInt8.ofNat m.name.size] ++ sB m.name) ++ C).drop 1 = sB m.name ++ C by simp,
      List.take_of_length_le (l := C) (by omega), List.take_left' (sB_len _), str_sB, hC, nul_beN a3]
    simp [plainM, h1]
  by_cases h2 : m.kind = 2
  · have hs : paySpec 2 ⟨#[]⟩ m.text m.version m.frm m.nonce 0 = some p := by simpa [payM, plainM, h2] using hq
    obtain ⟨a1, a2, a3, a4, rfl, _⟩ := valid2 hs
    refine msgS_some (by simp) ?_ hq
    obtain ⟨A, hA⟩ : ∃ A, A = beN (nat64 m.nonce) 8 := ⟨_, rfl⟩
    obtain ⟨B, hB⟩ : ∃ B, B = beN (nat64 m.frm) 8 := ⟨_, rfl⟩
    obtain ⟨C, hC⟩ : ∃ C, C = beN (nat64 m.version) 8 := ⟨_, rfl⟩
    obtain ⟨D, hD⟩ : ∃ D, D = beN m.text.size 4 := ⟨_, rfl⟩
    have lA : A.length = 8 := by rw [hA, beN_len]
    have lB : B.length = 8 := by rw [hB, beN_len]
    have lC : C.length = 8 := by rw [hC, beN_len]
    have lD : D.length = 4 := by rw [hD, beN_len]
    rw [← hA, ← hB, ← hC, ← hD]
    show refMsg ((2 : UInt8) :: (A ++ B ++ C ++ D ++ sB m.text)) = _
    rw [ref2 rfl]
    rw [show (A ++ B ++ C ++ D ++ sB m.text).take 8 = A by simp only [List.append_assoc]; exact List.take_left' lA,
      show (A ++ B ++ C ++ D ++ sB m.text).drop 8 = B ++ (C ++ (D ++ sB m.text)) by simp only [List.append_assoc]; exact List.drop_left' lA,
      show (A ++ B ++ C ++ D ++ sB m.text).drop 16 = C ++ (D ++ sB m.text) by rw [show A ++ B ++ C ++ D ++ sB m.text = (A ++ B) ++ (C ++ (D ++ sB m.text)) by simp]; exact List.drop_left' (by simp [lA, lB]),
      show (A ++ B ++ C ++ D ++ sB m.text).drop 28 = sB m.text from List.drop_left' (by simp [lA, lB, lC, lD]),
      List.take_left' lB, List.take_left' lC, List.take_of_length_le (by rw [sB_len]; omega), str_sB, hA, hB, hC, nul_beN a1, nul_beN a2, nul_beN a3]
    simp [plainM, h2]
  by_cases h3 : m.kind = 3
  · have hs : paySpec 3 ⟨#[]⟩ ⟨#[]⟩ m.version 0 m.nonce 0 = some p := by simpa [payM, plainM, h3] using hq
    obtain ⟨a1, a2, rfl, _⟩ := valid3 hs
    refine msgS_some (by simp) ?_ hq
    show refMsg ((3 : UInt8) :: (beN (nat64 m.nonce) 8 ++ beN (nat64 m.version) 8)) = _
    rw [ref3 rfl, List.drop_left' (beN_len _ _), List.take_left' (beN_len _ _), List.take_of_length_le (by rw [beN_len]; omega), nul_beN a1, nul_beN a2]
    simp [plainM, h3]
  by_cases h4 : m.kind = 4
  · have hs : paySpec 4 ⟨#[]⟩ ⟨#[]⟩ m.version 0 m.nonce m.err = some p := by simpa [payM, plainM, h4] using hq
    obtain ⟨a1, a2, a3, rfl, _⟩ := valid4 hs
    refine msgS_some (by simp) ?_ hq
    have he : nul (beN (nat64 m.err) 2) = m.err := by
      have h0 : nat64 m.err = m.err.toNat := by unfold nat64; omega
      have h9 : (256 : Nat) ^ 2 = 65536 := rfl
      rw [h0]
      unfold nul
      rw [be_beN 2 m.err.toNat (by omega), if_neg (by omega)]
      omega
    show refMsg ((4 : UInt8) :: (beN (nat64 m.nonce) 8 ++ beN (nat64 m.version) 8 ++ beN (nat64 m.err) 2)) = _
    obtain ⟨A, hA⟩ : ∃ A, A = beN (nat64 m.nonce) 8 := ⟨_, rfl⟩
    obtain ⟨B, hB⟩ : ∃ B, B = beN (nat64 m.version) 8 := ⟨_, rfl⟩
    obtain ⟨C, hC⟩ : ∃ C, C = beN (nat64 m.err) 2 := ⟨_, rfl⟩
    have lA : A.length = 8 := by rw [hA, beN_len]
    have lB : B.length = 8 := by rw [hB, beN_len]
    have lC : C.length = 2 := by rw [hC, beN_len]
    rw [← hA, ← hB, ← hC, ref4 rfl]
    rw [show (A ++ B ++ C).take 8 = A by simp only [List.append_assoc]; exact List.take_left' lA,
      show (A ++ B ++ C).drop 8 = B ++ C by simp only [List.append_assoc]; exact List.drop_left' lA,
      show (A ++ B ++ C).drop 16 = C from List.drop_left' (by simp [lA, lB]),
      List.take_left' lB, List.take_of_length_le (by omega), hA, hB, hC, nul_beN a1, nul_beN a2, he]
    simp [plainM, h4]
  by_cases h5 : m.kind = 5
  · have hs : paySpec 5 ⟨#[]⟩ ⟨#[]⟩ 0 0 m.nonce 0 = some p := by simpa [payM, plainM, h5] using hq
    obtain ⟨a1, rfl, _⟩ := valid5 hs
    refine msgS_some (by simp) ?_ hq
    show refMsg ((5 : UInt8) :: beN (nat64 m.nonce) 8) = _
    rw [ref5 rfl, List.take_of_length_le (by rw [beN_len]; omega), nul_beN a1]
    simp [plainM, h5]
  · rw [show payM m = none from payo h1 h2 h3 h4 h5] at h
    cases h

theorem pay_of_msgS {p : List UInt8} {m : Msg} (h : msgS p = some m) : payM m = some p := by
  unfold msgS at h
  split at h
  · rename_i hc
    injection h with h
    rw [← h]
    exact hc.2
  · cases h
theorem plain_of_msgS {p : List UInt8} {m : Msg} (h : msgS p = some m) : plainM m = m := by
  have := msgS_pay (pay_of_msgS h)
  rw [h] at this
  injection this with this
  exact this.symm

theorem be_num4 (a b c d : UInt8) : be [a, b, c, d] = num4 a b c d := by
  simp [be, num4]
  omega
theorem be_frame {p r : List UInt8} (h : p.length < 4294967296) : be ((frame p ++ r).take 4) = p.length := by
  unfold frame
  rw [List.append_assoc, List.append_assoc, List.take_left' (be4_len _)]
  obtain ⟨a, b, c, d, h1, h2⟩ := be4_form h
  rw [h1, be_num4, h2]

theorem decT_frame {p r : List UInt8} {m : Msg} (hp : p.length ≤ 131072) (hm : msgS p = some m) : decT (frame p ++ r) = (some m, ((8 + p.length : Nat) : Int), 0) := by
  have hl : (frame p ++ r).length = 8 + p.length + r.length := by rw [List.length_append, frame_len]
  have hx : nextS ((frame p ++ r).take (p.length + 8)) = some p := by
    rw [List.take_left' (by rw [frame_len]; omega)]
    have := nextS_frame (p := p) (r := []) hp
    rwa [List.append_nil] at this
  unfold decT
  rw [be_frame (by omega), if_neg (by omega), if_neg (by omega), if_neg (by omega), hx]
  simp only [hm]

theorem decT_cut {p : List UInt8} (hp : p.length ≤ 131072) {j : Nat} (hj : j < 8 + p.length) : decT ((frame p).take j) = (none, 0, 10) := by
  have hl : ((frame p).take j).length = j := by rw [List.length_take, frame_len]; omega
  unfold decT
  by_cases h4 : j < 4
  · rw [if_pos (by omega)]
  · have hb : be (((frame p).take j).take 4) = p.length := by
      rw [List.take_take, Nat.min_eq_left (by omega)]
      have := be_frame (p := p) (r := []) (by omega)
      rwa [List.append_nil] at this
    rw [if_neg (by omega), hb, if_neg (by omega), if_pos (by omega)]

end Go.Proofs.Ytbhjcfhpabnadaa
