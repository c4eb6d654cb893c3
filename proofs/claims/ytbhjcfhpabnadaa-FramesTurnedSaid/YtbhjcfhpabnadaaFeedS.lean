/-
  What a reader answers to bytes, in whatever pieces they come: plain lists. No program in sight.
-/
import Derived.Test.YtbhjcfhpabnadaaBackS
namespace Go.Proofs.Ytbhjcfhpabnadaa
open Go.RowKit

theorem nextS_hd {b p : List UInt8} (h : nextS b = some p) : b.take (8 + p.length) = frame p := by
  by_cases h8 : b.length < 8
  · rw [nextS_short h8] at h
    cases h
  · obtain ⟨x0, x1, x2, x3, x4, x5, x6, x7, r, rfl⟩ := long_form (b := b) (by omega)
    clear h8
    simp only [nextS] at h
    obtain ⟨n, hn⟩ : ∃ n, n = num4 x0 x1 x2 x3 := ⟨_, rfl⟩
    rw [← hn] at h
    obtain ⟨hc, h⟩ := ite_some h
    have hl : p.length = n := by rw [← h, List.length_take]; omega
    have e := frame_head (x4 := x4) (x5 := x5) (x6 := x6) (x7 := x7) (p := p) (hn.symm.trans hl.symm)
    rw [h] at hc
    rw [decide_eq_true hc.2.2, str_list, str_list, beq_iff_eq] at e
    rw [e, hl, ← h, Nat.add_comm]
    rfl

/-- Some bytes begin with a part of a message, with none, or with one. -/
theorem dec_three (b : List UInt8) : (decT b = (none, 0, 10) ∧ b.length < 131080) ∨ (decT b = (none, 0, 190) ∧ ∀ x, decT (b ++ x) = (none, 0, 190)) ∨
    (∃ m p, decT b = (some m, ((8 + p.length : Nat) : Int), 0) ∧ msgS p = some m ∧ 8 + p.length ≤ b.length ∧ b.take (8 + p.length) = frame p ∧ p.length ≤ 131072) := by
  have t4 : ∀ x, 4 ≤ b.length → (b ++ x).take 4 = b.take 4 := fun x h => List.take_append_of_le_length h
  refine decT_cases b (fun t => (t = (none, 0, 10) ∧ b.length < 131080) ∨ (t = (none, 0, 190) ∧ ∀ x, decT (b ++ x) = (none, 0, 190)) ∨
    (∃ m p, t = (some m, ((8 + p.length : Nat) : Int), 0) ∧ msgS p = some m ∧ 8 + p.length ≤ b.length ∧ b.take (8 + p.length) = frame p ∧ p.length ≤ 131072)) ?_ ?_ ?_ ?_ ?_ ?_
  · exact fun h => .inl ⟨rfl, by omega⟩
  · refine fun h1 h2 => .inr (.inl ⟨rfl, fun x => ?_⟩)
    unfold decT
    rw [if_neg (by rw [List.length_append]; omega), t4 x h1, if_pos h2]
  · exact fun h1 h2 h3 => .inl ⟨rfl, by omega⟩
  · refine fun h1 h2 h3 h4 => .inr (.inl ⟨rfl, fun x => ?_⟩)
    unfold decT
    rw [if_neg (by rw [List.length_append]; omega), t4 x h1, if_neg (by omega), if_neg (by rw [List.length_append]; omega), List.take_append_of_le_length h3, h4]
  · refine fun h1 h2 h3 p h4 h5 => .inr (.inl ⟨rfl, fun x => ?_⟩)
    unfold decT
    rw [if_neg (by rw [List.length_append]; omega), t4 x h1, if_neg (by omega), if_neg (by rw [List.length_append]; omega), List.take_append_of_le_length h3, h4]
    simp only [h5]
  · refine fun h1 h2 h3 p hx m hm => .inr (.inr ⟨m, p, rfl, hm, ?_⟩)
    have h4 := nextS_len hx
    rw [List.length_take] at h4
    have h := nextS_hd hx
    rw [List.take_take, Nat.min_eq_left (by omega)] at h
    exact ⟨by omega, h, h4.1⟩

noncomputable def parseF : Nat → List UInt8 → List Msg × List UInt8 × Bool
  | 0, b => ([], b, false)
  | f + 1, b => match decT b with
    | (some m, n, _) => (m :: (parseF f (b.drop n.toNat)).1, (parseF f (b.drop n.toNat)).2)
    | (none, _, e) => if e = 10 then ([], b, false) else ([], [], true)
/-- The messages that some bytes begin with, one behind the other; what waits behind them; whether a fault stands there. -/
noncomputable def parse (b : List UInt8) : List Msg × List UInt8 × Bool := parseF (b.length + 1) b

theorem parseF_torn {b : List UInt8} (h : decT b = (none, 0, 10)) (f : Nat) : parseF (f + 1) b = ([], b, false) := by
  simp [parseF, h]
theorem parseF_bad {b : List UInt8} (h : decT b = (none, 0, 190)) (f : Nat) : parseF (f + 1) b = ([], [], true) := by
  simp [parseF, h]
theorem parseF_msg {b : List UInt8} {m : Msg} {k : Nat} (h : decT b = (some m, (k : Int), 0)) (f : Nat) : parseF (f + 1) b = (m :: (parseF f (b.drop k)).1, (parseF f (b.drop k)).2) := by
  simp [parseF, h]
theorem parseF_same : ∀ (f g : Nat) (b : List UInt8), b.length < f → b.length < g → parseF f b = parseF g b
  | 0, _, _, h, _ => by omega
  | _, 0, _, _, h => by omega
  | f + 1, g + 1, b, h1, h2 => by
    rcases dec_three b with ⟨h, _⟩ | ⟨h, _⟩ | ⟨m, p, h, _, hl, _⟩
    · rw [parseF_torn h, parseF_torn h]
    · rw [parseF_bad h, parseF_bad h]
    · rw [parseF_msg h, parseF_msg h, parseF_same f g (b.drop (8 + p.length)) (by rw [List.length_drop]; omega) (by rw [List.length_drop]; omega)]
theorem parse_torn {b : List UInt8} (h : decT b = (none, 0, 10)) : parse b = ([], b, false) := parseF_torn h _
theorem parse_bad {b : List UInt8} (h : decT b = (none, 0, 190)) : parse b = ([], [], true) := parseF_bad h _
theorem parse_msg {b : List UInt8} {m : Msg} {k : Nat} (h : decT b = (some m, (k : Int), 0)) (h0 : 0 < k) (hk : k ≤ b.length) : parse b = (m :: (parse (b.drop k)).1, (parse (b.drop k)).2) := by
  unfold parse
  rw [parseF_msg h, parseF_same b.length ((b.drop k).length + 1) (b.drop k) (by rw [List.length_drop]; omega) (by omega)]

/-- By the length of what is left. -/
theorem parse_ind {P : List UInt8 → Prop} (h1 : ∀ b, decT b = (none, 0, 10) → b.length < 131080 → P b) (h2 : ∀ b, decT b = (none, 0, 190) → (∀ x, decT (b ++ x) = (none, 0, 190)) → P b)
    (h3 : ∀ b m p, decT b = (some m, ((8 + p.length : Nat) : Int), 0) → msgS p = some m → 8 + p.length ≤ b.length → b = frame p ++ b.drop (8 + p.length) → p.length ≤ 131072 → P (b.drop (8 + p.length)) → P b) : ∀ (n : Nat) (b : List UInt8), b.length ≤ n → P b
  | n, b, hb => by
    rcases dec_three b with ⟨h, hl⟩ | ⟨h, hx⟩ | ⟨m, p, h, hm, hl, hf, hp⟩
    · exact h1 b h hl
    · exact h2 b h hx
    · refine h3 b m p h hm hl (by rw [← hf, List.take_append_drop]) hp ?_
      match n, hb with
      | 0, hb => exact absurd hb (by omega)
      | n + 1, hb => exact parse_ind h1 h2 h3 n (b.drop (8 + p.length)) (by rw [List.length_drop]; omega)

theorem parse_len (b : List UInt8) : (parse b).2.1.length < 131080 ∧ 8 * (parse b).1.length + (parse b).2.1.length ≤ b.length ∧ ((parse b).2.2 = true → (parse b).2.1 = []) := by
  refine parse_ind (P := fun b => (parse b).2.1.length < 131080 ∧ 8 * (parse b).1.length + (parse b).2.1.length ≤ b.length ∧ ((parse b).2.2 = true → (parse b).2.1 = [])) ?_ ?_ ?_ b.length b (Nat.le_refl _)
  · intro b h hl
    rw [parse_torn h]
    exact ⟨hl, by simp, (fun h => by cases h)⟩
  · intro b h _
    rw [parse_bad h]
    exact ⟨by simp, by simp, fun _ => rfl⟩
  · intro b m p h _ hl _ _ ih
    rw [parse_msg h (by omega) hl]
    obtain ⟨i1, i2, i3⟩ := ih
    rw [List.length_drop] at i2
    exact ⟨i1, by simp only [List.length_cons]; omega, i3⟩

theorem parse_app (b x : List UInt8) : ((parse b).2.2 = true → parse (b ++ x) = parse b) ∧ ((parse b).2.2 = false → parse (b ++ x) = ((parse b).1 ++ (parse ((parse b).2.1 ++ x)).1, (parse ((parse b).2.1 ++ x)).2)) := by
  refine parse_ind (P := fun b => ((parse b).2.2 = true → parse (b ++ x) = parse b) ∧ ((parse b).2.2 = false → parse (b ++ x) = ((parse b).1 ++ (parse ((parse b).2.1 ++ x)).1, (parse ((parse b).2.1 ++ x)).2))) ?_ ?_ ?_ b.length b (Nat.le_refl _)
  · intro b h hl
    rw [parse_torn h]
    exact ⟨(fun h => by cases h), (fun _ => by simp)⟩
  · intro b h hx
    rw [parse_bad h, parse_bad (hx x)]
    exact ⟨(fun _ => rfl), (fun h => by cases h)⟩
  · intro b m p h hm hl hf hp ih
    have hd : decT (b ++ x) = (some m, ((8 + p.length : Nat) : Int), 0) := by
      rw [hf, List.append_assoc]
      exact decT_frame hp hm
    have hdr : (b ++ x).drop (8 + p.length) = b.drop (8 + p.length) ++ x := List.drop_append_of_le_length hl
    rw [parse_msg h (by omega) hl, parse_msg hd (by omega) (by rw [List.length_append]; omega), hdr]
    refine ⟨fun h1 => ?_, fun h1 => ?_⟩
    · rw [ih.1 h1]
    · rw [ih.2 h1]
      simp

/-- Messages one behind the other. -/
theorem parse_frames (r : List UInt8) : ∀ (l : List (List UInt8 × Msg)), (∀ x ∈ l, x.1.length ≤ 131072 ∧ msgS x.1 = some x.2) → parse (catF (l.map (·.1)) ++ r) = (l.map (·.2) ++ (parse r).1, (parse r).2)
  | [], _ => by simp [catF]
  | (p, m) :: l, h => by
    obtain ⟨hp, hm⟩ := h (p, m) (by simp)
    have hd := decT_frame (r := catF (l.map (·.1)) ++ r) hp hm
    rw [List.map_cons, catF_cons, List.append_assoc, parse_msg hd (by omega) (by rw [List.length_append, frame_len]; omega), List.drop_left' (by rw [frame_len]), parse_frames r l fun x hx => h x (by simp [hx])]
    simp

/-- What a reader is: what waits, and whether it is dead. -/
structure RSt where
  waits : List UInt8
  dead : Bool
def RSt.ok (s : RSt) : Prop := s.waits.length < 131080 ∧ (s.dead = true → s.waits = [])
noncomputable def feedM (s : RSt) (p : List UInt8) : List Msg := if s.dead then [] else (parse (s.waits ++ p)).1
noncomputable def feedR (s : RSt) (p : List UInt8) : RSt := if s.dead then s else ⟨(parse (s.waits ++ p)).2.1, (parse (s.waits ++ p)).2.2⟩
def deadE (d : Bool) : Int := if d then 190 else 0
/-- The reader that was fed these bytes. -/
noncomputable def rsOf (b : List UInt8) : RSt := ⟨(parse b).2.1, (parse b).2.2⟩

theorem rsOf_ok (b : List UInt8) : (rsOf b).ok := ⟨(parse_len b).1, (parse_len b).2.2⟩
theorem feedR_ok {s : RSt} (h : s.ok) (p : List UInt8) : (feedR s p).ok := by
  unfold feedR
  split
  · exact h
  · exact rsOf_ok _
theorem decT_nil : decT [] = (none, 0, 10) := by
  unfold decT
  rw [if_pos (by decide)]
theorem rsOf_nil : rsOf [] = ⟨[], false⟩ := by
  unfold rsOf
  rw [parse_torn decT_nil]
theorem feed_app (b x : List UInt8) : feedR (rsOf b) x = rsOf (b ++ x) ∧ (parse b).1 ++ feedM (rsOf b) x = (parse (b ++ x)).1 := by
  cases hd : (parse b).2.2 with
  | true =>
    have h := (parse_app b x).1 hd
    simp only [feedR, feedM, rsOf, hd, h]
    simp
  | false =>
    have h := (parse_app b x).2 hd
    simp only [feedR, feedM, rsOf, hd, h]
    simp
theorem feedM_len (s : RSt) (p : List UInt8) : 8 * (feedM s p).length ≤ s.waits.length + p.length := by
  unfold feedM
  split
  · simp
  · have := (parse_len (s.waits ++ p)).2.1
    rw [List.length_append] at this
    omega

end Go.Proofs.Ytbhjcfhpabnadaa
