/-
  What bytes are read as, as plain data. No program in sight.
-/
import Derived.Test.YtpafimjdlbnckaaSteps
namespace Go.Proofs.Ytpafimjdlbnckaa
open Go.RowKit

/-- The byte at a place; 0 behind the end. -/
def gb (b : List UInt8) (i : Nat) : Nat := ((b[i]?).map (·.toNat)).getD 0
theorem gb_lt (b : List UInt8) (i : Nat) : gb b i < 256 := by
  unfold gb
  cases b[i]? with
  | none => simp
  | some x => exact x.toNat_lt
theorem gb_drop (b : List UInt8) (p i : Nat) : gb (b.drop p) i = gb b (p + i) := by simp [gb]
theorem gb_in {b : List UInt8} {i : Nat} (h : i < b.length) : gb b i = b[i].toNat := by simp [gb, h]
theorem gb_out {b : List UInt8} {i : Nat} (h : b.length ≤ i) : gb b i = 0 := by simp [gb, h]

/-- How much data a step with data says it has. -/
def saidN (b : List UInt8) : Nat := gb b 3 + 256 * gb b 4
def opN (b : List UInt8) : Int := ((gb b 0 % 16 : Nat) : Int)
/-- The step that bytes begin with. -/
def stepL (b : List UInt8) : St := ⟨opN b, (gb b 1 : Nat), (gb b 2 : Nat), if carB (opN b) = true then (b.drop 5).take (saidN b) else []⟩
/-- So many bytes it takes (more than there are, where the end comes first). -/
def used (b : List UInt8) : Nat := if carB (opN b) = true then 5 + saidN b else 3
theorem used_pos (b : List UInt8) : 3 ≤ used b := by unfold used; split <;> omega

def decF : Nat → Nat → List UInt8 → List (Nat × St)
  | 0, _, _ => []
  | f + 1, k, b => if b = [] then [] else (k, stepL b) :: decF f (k + used b) (b.drop (used b))
/-- The steps of some bytes: of each the place of its first byte (counted from k). -/
def decR (k : Nat) (b : List UInt8) : List (Nat × St) := decF b.length k b

theorem decF_fuel (f : Nat) : ∀ (g k : Nat) (b : List UInt8), b.length ≤ f → b.length ≤ g → decF f k b = decF g k b := by
  have nil : ∀ (g k : Nat), decF g k [] = [] := fun g k => by cases g <;> simp [decF]
  induction f with
  | zero =>
    intro g k b h _
    obtain rfl : b = [] := List.eq_nil_of_length_eq_zero (by omega)
    rw [nil, nil]
  | succ f ih =>
    intro g k b h h2
    cases g with
    | zero =>
      obtain rfl : b = [] := List.eq_nil_of_length_eq_zero (by omega)
      rw [nil, nil]
    | succ g =>
      simp only [decF]
      split
      · rfl
      · rename_i hb
        have h0 : 0 < b.length := List.length_pos_iff.2 hb
        have hu := used_pos b
        have hd : (b.drop (used b)).length = b.length - used b := by simp
        rw [ih g _ _ (by omega) (by omega)]
theorem decR_nil (k : Nat) : decR k [] = [] := rfl
theorem decR_cons {k : Nat} {b : List UInt8} (h : b ≠ []) : decR k b = (k, stepL b) :: decR (k + used b) (b.drop (used b)) := by
  have h0 : 0 < b.length := List.length_pos_iff.2 h
  have hu := used_pos b
  have hd : (b.drop (used b)).length = b.length - used b := by simp
  unfold decR
  obtain ⟨m, hm⟩ : ∃ m, b.length = m + 1 := ⟨b.length - 1, by omega⟩
  rw [hm]
  simp only [decF, if_neg h]
  rw [decF_fuel m _ _ _ (by omega) (Nat.le_refl _)]

theorem decR_len : ∀ (f k : Nat) (b : List UInt8), b.length ≤ f → (decR k b).length ≤ b.length := by
  intro f
  induction f with
  | zero =>
    intro k b h
    obtain rfl : b = [] := List.eq_nil_of_length_eq_zero (by omega)
    simp [decR, decF]
  | succ f ih =>
    intro k b h
    by_cases hb : b = []
    · subst hb; simp [decR, decF]
    · rw [decR_cons hb]
      have h0 : 0 < b.length := List.length_pos_iff.2 hb
      have hu := used_pos b
      have hd : (b.drop (used b)).length = b.length - used b := by simp
      have := ih (k + used b) (b.drop (used b)) (by omega)
      simp only [List.length_cons]
      omega

/-- The steps alone. -/
def steps (b : List UInt8) : List St := (decR 0 b).map (·.2)
theorem decR_shift : ∀ (f k m : Nat) (b : List UInt8), b.length ≤ f → (decR k b).map (·.2) = (decR m b).map (·.2) := by
  intro f
  induction f with
  | zero =>
    intro k m b h
    obtain rfl : b = [] := List.eq_nil_of_length_eq_zero (by omega)
    rfl
  | succ f ih =>
    intro k m b h
    by_cases hb : b = []
    · subst hb; rfl
    · rw [decR_cons hb, decR_cons hb]
      have h0 : 0 < b.length := List.length_pos_iff.2 hb
      have hu := used_pos b
      have hd : (b.drop (used b)).length = b.length - used b := by simp
      simp only [List.map_cons]
      rw [ih _ (m + used b) _ (by omega)]
theorem steps_nil : steps [] = [] := rfl
theorem steps_cons {b : List UInt8} (h : b ≠ []) : steps b = stepL b :: steps (b.drop (used b)) := by
  unfold steps
  rw [decR_cons h, List.map_cons, decR_shift _ (0 + used b) 0 _ (Nat.le_refl _)]
theorem steps_empty {b : List UInt8} : steps b = [] ↔ b = [] := by
  constructor
  · intro h
    by_cases hb : b = []
    · exact hb
    · rw [steps_cons hb] at h
      cases h
  · rintro rfl
    rfl

theorem stepL_ok (b : List UInt8) : okS (stepL b) := by
  have h1 := gb_lt b 1
  have h2 := gb_lt b 2
  have h3 := gb_lt b 3
  have h4 := gb_lt b 4
  have h0 : gb b 0 % 16 < 16 := Nat.mod_lt _ (by omega)
  unfold okS stepL opN
  simp only
  refine ⟨by omega, by omega, by omega, by omega, by omega, by omega, ?_, ?_⟩
  · split
    · rw [List.length_take]
      unfold saidN
      omega
    · simp
  · split
    · intro _
      assumption
    · intro h
      simp at h
theorem steps_ok : ∀ (f : Nat) (b : List UInt8), b.length ≤ f → ∀ s ∈ steps b, okS s := by
  intro f
  induction f with
  | zero =>
    intro b h s hs
    obtain rfl : b = [] := List.eq_nil_of_length_eq_zero (by omega)
    cases hs
  | succ f ih =>
    intro b h s hs
    by_cases hb : b = []
    · subst hb; cases hs
    · rw [steps_cons hb] at hs
      have h0 : 0 < b.length := List.length_pos_iff.2 hb
      have hu := used_pos b
      have hd : (b.drop (used b)).length = b.length - used b := by simp
      rcases List.mem_cons.1 hs with rfl | hs
      · exact stepL_ok b
      · exact ih _ (by omega) s hs

theorem u8_nat {z : Int} (h0 : 0 ≤ z) (h1 : z ≤ 255) : (u8 z).toNat = z.toNat := by
  have := u8_val h0 h1
  omega

/-- The bytes of a step, and what stands behind, are read as the step. -/
theorem stepL_enc {s : St} (h : okS s) (r : List UInt8) : stepL (encS s ++ r) = s ∧ used (encS s ++ r) = (encS s).length := by
  obtain ⟨q0, q1, q2, q3, q4, q5, q6, q7⟩ := h
  cases hc : carB s.op
  · have hd : s.data = [] := by
      rcases Nat.eq_zero_or_pos s.data.length with h | h
      · exact List.eq_nil_of_length_eq_zero h
      · rw [q7 h] at hc; cases hc
    rw [encS_not hc]
    have g0 : gb ([u8 s.op, u8 s.a, u8 s.b] ++ r) 0 = s.op.toNat := by simp [gb, u8_nat q0 (by omega : s.op ≤ 255)]
    have g1 : gb ([u8 s.op, u8 s.a, u8 s.b] ++ r) 1 = s.a.toNat := by simp [gb, u8_nat q2 q3]
    have g2 : gb ([u8 s.op, u8 s.a, u8 s.b] ++ r) 2 = s.b.toNat := by simp [gb, u8_nat q4 q5]
    have hop : opN ([u8 s.op, u8 s.a, u8 s.b] ++ r) = s.op := by unfold opN; rw [g0]; omega
    unfold stepL used
    rw [hop, hc, g1, g2]
    obtain ⟨o, a, b, d⟩ := s
    simp only at *
    subst hd
    refine ⟨?_, rfl⟩
    simp only [Bool.false_eq_true, if_false]
    congr 1 <;> omega
  · rw [encS_car hc]
    have g0 : gb ([u8 s.op, u8 s.a, u8 s.b] ++ [u8 (s.data.length % 256 : Nat), u8 (s.data.length / 256 : Nat)] ++ s.data ++ r) 0 = s.op.toNat := by simp [gb, u8_nat q0 (by omega : s.op ≤ 255)]
    have g1 : gb ([u8 s.op, u8 s.a, u8 s.b] ++ [u8 (s.data.length % 256 : Nat), u8 (s.data.length / 256 : Nat)] ++ s.data ++ r) 1 = s.a.toNat := by simp [gb, u8_nat q2 q3]
    have g2 : gb ([u8 s.op, u8 s.a, u8 s.b] ++ [u8 (s.data.length % 256 : Nat), u8 (s.data.length / 256 : Nat)] ++ s.data ++ r) 2 = s.b.toNat := by simp [gb, u8_nat q4 q5]
    have g3 : gb ([u8 s.op, u8 s.a, u8 s.b] ++ [u8 (s.data.length % 256 : Nat), u8 (s.data.length / 256 : Nat)] ++ s.data ++ r) 3 = s.data.length % 256 := by
      have := u8_nat (z := ((s.data.length % 256 : Nat) : Int)) (by omega) (by omega)
      simp only [gb, List.cons_append, List.getElem?_cons_succ, List.getElem?_cons_zero, List.nil_append, Option.map_some, Option.getD_some, this]
      omega
    have g4 : gb ([u8 s.op, u8 s.a, u8 s.b] ++ [u8 (s.data.length % 256 : Nat), u8 (s.data.length / 256 : Nat)] ++ s.data ++ r) 4 = s.data.length / 256 := by
      have := u8_nat (z := ((s.data.length / 256 : Nat) : Int)) (by omega) (by omega)
      simp only [gb, List.cons_append, List.getElem?_cons_succ, List.getElem?_cons_zero, List.nil_append, Option.map_some, Option.getD_some, this]
      omega
    have hop : opN ([u8 s.op, u8 s.a, u8 s.b] ++ [u8 (s.data.length % 256 : Nat), u8 (s.data.length / 256 : Nat)] ++ s.data ++ r) = s.op := by unfold opN; rw [g0]; omega
    have hsaid : saidN ([u8 s.op, u8 s.a, u8 s.b] ++ [u8 (s.data.length % 256 : Nat), u8 (s.data.length / 256 : Nat)] ++ s.data ++ r) = s.data.length := by unfold saidN; rw [g3, g4]; omega
    unfold stepL used
    rw [hop, hc, g1, g2, hsaid]
    obtain ⟨o, a, b, d⟩ := s
    simp only at *
    refine ⟨?_, by simp; omega⟩
    simp only [if_true]
    congr 1
    · omega
    · omega
    · simp

/-- Steps that were laid, and whatever bytes behind them. -/
theorem steps_enc : ∀ (l : List St) (r : List UInt8), (∀ s ∈ l, okS s) → steps (encL l ++ r) = l ++ steps r
  | [], r, _ => by simp [encL]
  | s :: l, r, h => by
    have hs := stepL_enc (h s (by simp)) (encL l ++ r)
    have he : encL (s :: l) ++ r = encS s ++ (encL l ++ r) := by simp [encL]
    have hne : encS s ++ (encL l ++ r) ≠ [] := by
      intro e
      have := congrArg List.length e
      unfold encS at this
      simp at this
    rw [he, steps_cons hne, hs.1, hs.2, List.drop_left, steps_enc l r (fun x hx => h x (by simp [hx]))]
    rfl

end Go.Proofs.Ytpafimjdlbnckaa
