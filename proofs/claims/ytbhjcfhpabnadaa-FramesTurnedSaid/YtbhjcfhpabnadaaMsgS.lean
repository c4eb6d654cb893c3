/-
  What a payload says: the message of which it is the payload. No program's code in sight.
-/
import Derived.Test.YtbhjcfhpabnadaaMsgW
namespace Go.Proofs.Ytbhjcfhpabnadaa
open Go.RowKit

theorem sB_str (l : List UInt8) : sB (str l) = l := by simp [sB, str]
theorem str_size (l : List UInt8) : (str l).size = l.length := by
  show l.toArray.size = l.length
  simp
theorem str_nil : str [] = ⟨#[]⟩ := rfl

theorem digit_step (N i : Nat) : digit N (i + 1) = digit (N / 256) i := by
  unfold digit
  rw [Nat.div_div_eq_div_mul, show 256 * 2 ^ (8 * i) = 2 ^ (8 * (i + 1)) by rw [Nat.mul_succ, Nat.pow_add, Nat.mul_comm]]
theorem beN_succ (N s : Nat) : beN N (s + 1) = beN (N / 256) s ++ [digit N 0] := by
  unfold beN
  rw [List.range_succ, List.map_append]
  congr 1
  · refine List.map_congr_left fun j hj => ?_
    have := List.mem_range.1 hj
    rw [show s + 1 - 1 - j = (s - 1 - j) + 1 by omega, digit_step]
  · simp
theorem beN_be : ∀ (s : Nat) (l : List UInt8), l.length = s → beN (be l) s = l := by
  intro s
  induction s with
  | zero => intro l h; obtain rfl := List.eq_nil_of_length_eq_zero h; rfl
  | succ s ih =>
    intro l h
    have hne : l ≠ [] := by intro e; subst e; simp at h
    have h1 := List.dropLast_concat_getLast hne
    obtain ⟨x, hx⟩ : ∃ x, x = l.getLast hne := ⟨_, rfl⟩
    obtain ⟨r, hr⟩ : ∃ r, r = l.dropLast := ⟨_, rfl⟩
    rw [← hx, ← hr] at h1
    rw [← h1, be_snoc, beN_succ]
    have hb := x.toNat_lt
    rw [show (be r * 256 + x.toNat) / 256 = be r by omega, ih r (by rw [hr]; simp [h])]
    congr 1
    unfold digit
    simp only [Nat.mul_zero, Nat.pow_zero, Nat.div_one]
    rw [show (be r * 256 + x.toNat) % 256 = x.toNat by omega]
    simp
theorem be_beN : ∀ (s N : Nat), N < 256 ^ s → be (beN N s) = N := by
  intro s
  induction s with
  | zero => intro N h; simp at h; subst h; rfl
  | succ s ih =>
    intro N h
    rw [Nat.pow_succ] at h
    rw [beN_succ, be_snoc, ih (N / 256) (by omega)]
    have : (digit N 0).toNat = N % 256 := by
      have := digit_val N 0
      simp at this
      omega
    rw [this]
    omega

/-- A number of eight bytes as cut reads it, and as the reference does. -/
def wrl (l : List UInt8) : Int := IntKind.i64.wrap (be l)
def nul (l : List UInt8) : Int := if be l > 4611686018427387904 then 4611686018427387905 else (be l : Int)
theorem be_u64 {l : List UInt8} (h : l.length ≤ 8) : be l < 18446744073709551616 := by
  have h1 := be_lt l.length l rfl
  have h2 := Nat.pow_le_pow_right (show 0 < 256 by omega) h
  have h3 : (256 : Nat) ^ 8 = 18446744073709551616 := rfl
  omega
theorem wrl_nul {l : List UInt8} (h : l.length ≤ 8) : (wrl l = nul l ∧ nul l = (be l : Int) ∧ mayS (nul l) = true) ∨ (mayS (wrl l) = false ∧ mayS (nul l) = false) := by
  have hb := be_u64 h
  unfold wrl nul
  rw [IntKind.wrap_i64]
  by_cases hbig : be l > 4611686018427387904
  · right
    rw [if_pos hbig]
    refine ⟨?_, by decide⟩
    unfold mayS
    by_cases h2 : be l < 9223372036854775808
    · rw [show ((be l : Int) + 9223372036854775808) % 18446744073709551616 - 9223372036854775808 = (be l : Int) by omega, decide_eq_false (show ¬ (be l : Int) ≤ 4611686018427387904 by omega)]
      simp
    · rw [decide_eq_false (show ¬ 0 ≤ ((be l : Int) + 9223372036854775808) % 18446744073709551616 - 9223372036854775808 by omega)]
      simp
  · left
    rw [if_neg hbig]
    refine ⟨by omega, rfl, ?_⟩
    unfold mayS
    rw [decide_eq_true (show (0 : Int) ≤ (be l : Int) by omega), decide_eq_true (show (be l : Int) ≤ 4611686018427387904 by omega)]
    rfl
theorem nul_may {l : List UInt8} (h : mayS (nul l) = true) : nul l = (be l : Int) ∧ nat64 (nul l) = be l := by
  unfold nul at *
  by_cases hbig : be l > 4611686018427387904
  · rw [if_pos hbig] at h
    exact absurd h (by decide)
  · rw [if_neg hbig]
    exact ⟨rfl, by unfold nat64; omega⟩
theorem numS_nul (p : List UInt8) (a s : Nat) : numS p a s = nul ((p.drop a).take s) := rfl
theorem nul_small {l : List UInt8} (h : l.length ≤ 4) : nul l = (be l : Int) ∧ wrl l = (be l : Int) ∧ be l < 4294967296 := by
  have h1 := be_lt l.length l rfl
  have h2 := Nat.pow_le_pow_right (show 0 < 256 by omega) h
  have h3 : (256 : Nat) ^ 4 = 4294967296 := rfl
  unfold nul wrl
  rw [if_neg (by omega), IntKind.wrap_i64]
  exact ⟨rfl, by omega, by omega⟩

def payM (m : Msg) : Option (List UInt8) := paySpec m.kind m.name m.text m.version m.frm m.nonce m.err

/-- The message that is read off the places of the first byte's kind. -/
def refMsg (p : List UInt8) : Msg :=
  let k := (p.headD 0).toNat
  if k = 1 then ⟨1, str ((p.drop 2).take (be ((p.drop 1).take 1))), nul ((p.drop (2 + be ((p.drop 1).take 1))).take 8), 0, 0, 0, ⟨#[]⟩⟩
  else if k = 2 then ⟨2, ⟨#[]⟩, nul ((p.drop 17).take 8), nul ((p.drop 9).take 8), nul ((p.drop 1).take 8), 0, str ((p.drop 29).take 1048576)⟩
  else if k = 3 then ⟨3, ⟨#[]⟩, nul ((p.drop 9).take 8), 0, nul ((p.drop 1).take 8), 0, ⟨#[]⟩⟩
  else if k = 4 then ⟨4, ⟨#[]⟩, nul ((p.drop 9).take 8), 0, nul ((p.drop 1).take 8), nul ((p.drop 17).take 2), ⟨#[]⟩⟩
  else if k = 5 then ⟨5, ⟨#[]⟩, 0, 0, nul ((p.drop 1).take 8), 0, ⟨#[]⟩⟩
  else ⟨k, ⟨#[]⟩, 0, 0, 0, 0, ⟨#[]⟩⟩

open Classical in
/-- The message whose payload it is. -/
noncomputable def msgS (p : List UInt8) : Option Msg := if p ≠ [] ∧ payM (refMsg p) = some p then some (refMsg p) else none
theorem msgS_none {p : List UInt8} (h : payM (refMsg p) ≠ some p) : msgS p = none := by
  unfold msgS
  rw [if_neg (fun h2 => h h2.2)]
theorem msgS_some {p : List UInt8} {m : Msg} (hp : p ≠ []) (hm : refMsg p = m) (h : payM m = some p) : msgS p = some m := by
  unfold msgS
  rw [if_pos ⟨hp, by rw [hm]; exact h⟩, hm]

theorem ite_some {c : Prop} [Decidable c] {l q : List UInt8} (h : (if c then some l else none) = some q) : c ∧ l = q := by
  by_cases hc : c
  · rw [if_pos hc] at h
    injection h with h
    exact ⟨hc, h⟩
  · rw [if_neg hc] at h
    cases h

/-- Whatever kind: a payload that is read is as long as its kind says. -/
theorem valid3 {ver nonce : Int} {q : List UInt8} (h : paySpec 3 ⟨#[]⟩ ⟨#[]⟩ ver 0 nonce 0 = some q) : mayS nonce = true ∧ mayS ver = true ∧ q = [3] ++ beN (nat64 nonce) 8 ++ beN (nat64 ver) 8 ∧ q.length = 17 := by
  rw [rspec3] at h
  obtain ⟨⟨h1, h2⟩, rfl⟩ := ite_some h
  exact ⟨h1, h2, rfl, by simp [beN_len]⟩
theorem valid5 {nonce : Int} {q : List UInt8} (h : paySpec 5 ⟨#[]⟩ ⟨#[]⟩ 0 0 nonce 0 = some q) : mayS nonce = true ∧ q = [5] ++ beN (nat64 nonce) 8 ∧ q.length = 9 := by
  rw [rspec5] at h
  obtain ⟨h1, rfl⟩ := ite_some h
  exact ⟨h1, rfl, by simp [beN_len]⟩
theorem valid4 {ver nonce err : Int} {q : List UInt8} (h : paySpec 4 ⟨#[]⟩ ⟨#[]⟩ ver 0 nonce err = some q) : mayS nonce = true ∧ mayS ver = true ∧ (1 ≤ err ∧ err ≤ 65535) ∧ q = [4] ++ beN (nat64 nonce) 8 ++ beN (nat64 ver) 8 ++ beN (nat64 err) 2 ∧ q.length = 19 := by
  rw [rspec4] at h
  obtain ⟨⟨h1, h2, h3⟩, rfl⟩ := ite_some h
  exact ⟨h1, h2, h3, rfl, by simp [beN_len]⟩
theorem valid2 {ver frm nonce : Int} {text : ByteArray} {q : List UInt8} (h : paySpec 2 ⟨#[]⟩ text ver frm nonce 0 = some q) : mayS nonce = true ∧ mayS frm = true ∧ mayS ver = true ∧ text.size ≤ 65536 ∧ q = [2] ++ beN (nat64 nonce) 8 ++ beN (nat64 frm) 8 ++ beN (nat64 ver) 8 ++ beN text.size 4 ++ sB text ∧ q.length = 29 + text.size := by
  rw [rspec2] at h
  obtain ⟨⟨h1, h2, h3, h4⟩, rfl⟩ := ite_some h
  have : nat64 (text.size : Int) = text.size := by unfold nat64; omega
  rw [this]
  exact ⟨h1, h2, h3, h4, rfl, by simp [beN_len, sB_len]; omega⟩
theorem valid1 {ver : Int} {name : ByteArray} {q : List UInt8} (h : paySpec 1 name ⟨#[]⟩ ver 0 0 0 = some q) : 1 ≤ name.size ∧ name.size ≤ 64 ∧ mayS ver = true ∧ q = [1, UInt8.ofNat name.size] ++ sB name ++ beN (nat64 ver) 8 ∧ q.length = 10 + name.size := by
  rw [rspec1] at h
  obtain ⟨⟨h1, h2, h3⟩, rfl⟩ := ite_some h
  exact ⟨h1, h2, h3, rfl, by simp [beN_len, sB_len]; omega⟩

theorem swap3 {v1 v2 n1 n2 : Int} (h1 : v1 = n1 ∨ mayS v1 = false ∧ mayS n1 = false) (h2 : v2 = n2 ∨ mayS v2 = false ∧ mayS n2 = false) : paySpec 3 ⟨#[]⟩ ⟨#[]⟩ v2 0 v1 0 = paySpec 3 ⟨#[]⟩ ⟨#[]⟩ n2 0 n1 0 := by
  rw [rspec3, rspec3]
  rcases h1 with rfl | ⟨a, b⟩
  · rcases h2 with rfl | ⟨a, b⟩
    · rfl
    · simp [a, b]
  · simp [a, b]
theorem swap5 {v1 n1 : Int} (h1 : v1 = n1 ∨ mayS v1 = false ∧ mayS n1 = false) : paySpec 5 ⟨#[]⟩ ⟨#[]⟩ 0 0 v1 0 = paySpec 5 ⟨#[]⟩ ⟨#[]⟩ 0 0 n1 0 := by
  rcases h1 with rfl | ⟨a, b⟩
  · rfl
  · rw [rspec5, rspec5]; simp [a, b]
theorem swap4 {v1 v2 n1 n2 e : Int} (h1 : v1 = n1 ∨ mayS v1 = false ∧ mayS n1 = false) (h2 : v2 = n2 ∨ mayS v2 = false ∧ mayS n2 = false) : paySpec 4 ⟨#[]⟩ ⟨#[]⟩ v2 0 v1 e = paySpec 4 ⟨#[]⟩ ⟨#[]⟩ n2 0 n1 e := by
  rw [rspec4, rspec4]
  rcases h1 with rfl | ⟨a, b⟩
  · rcases h2 with rfl | ⟨a, b⟩
    · rfl
    · simp [a, b]
  · simp [a, b]
theorem swap2 {v1 v2 v3 n1 n2 n3 : Int} {t : ByteArray} (h1 : v1 = n1 ∨ mayS v1 = false ∧ mayS n1 = false) (h2 : v2 = n2 ∨ mayS v2 = false ∧ mayS n2 = false) (h3 : v3 = n3 ∨ mayS v3 = false ∧ mayS n3 = false) : paySpec 2 ⟨#[]⟩ t v3 v2 v1 0 = paySpec 2 ⟨#[]⟩ t n3 n2 n1 0 := by
  rw [rspec2, rspec2]
  rcases h1 with rfl | ⟨a, b⟩
  · rcases h2 with rfl | ⟨a, b⟩
    · rcases h3 with rfl | ⟨a, b⟩
      · rfl
      · simp [a, b]
    · simp [a, b]
  · simp [a, b]
theorem swap1 {v1 n1 : Int} {t : ByteArray} (h1 : v1 = n1 ∨ mayS v1 = false ∧ mayS n1 = false) : paySpec 1 t ⟨#[]⟩ v1 0 0 0 = paySpec 1 t ⟨#[]⟩ n1 0 0 0 := by
  rcases h1 with rfl | ⟨a, b⟩
  · rfl
  · rw [rspec1, rspec1]; simp [a, b]
theorem wn {l : List UInt8} (h : l.length ≤ 8) : wrl l = nul l ∨ mayS (wrl l) = false ∧ mayS (nul l) = false := by
  rcases wrl_nul h with h | h
  · exact .inl h.1
  · exact .inr h
theorem wn_eq {l : List UInt8} (h : l.length ≤ 8) (hm : mayS (wrl l) = true) : wrl l = nul l ∧ nat64 (nul l) = be l := by
  rcases wrl_nul h with h | h
  · exact ⟨h.1, (nul_may h.2.2).2⟩
  · rw [h.1] at hm; cases hm

end Go.Proofs.Ytbhjcfhpabnadaa
