/-
  The walk of script.Encode.
-/
import Derived.Test.YtpafimjdlbnckaaLent
import Derived.Test.YtpafimjdlbnckaaLeaf
namespace Go.Proofs.Ytpafimjdlbnckaa
open Go.RowKit

theorem one3 (k1 k2 k3 : IntKind) (x y z : Int) : ∀ u ∈ (#[Value.int k1 x, .int k2 y, .int k3 z] : Array Value).toList, u.oneCell' = true := by simp [Value.oneCell']
theorem one2 (k1 k2 : IntKind) (x y : Int) : ∀ u ∈ (#[Value.int k1 x, .int k2 y] : Array Value).toList, u.oneCell' = true := by simp [Value.oneCell']

/-- What Encode leaves: the forms of the steps in new memory, or ErrArg. -/
def EncPost (w : World) (l : List St) (e : Ending) (w' : World) : Prop :=
  Below w.heap.size w w' ∧ (((∀ s ∈ l, okS s) ∧ ∃ A N c, e = .returned (.tuple #[.slice A N c, .int .i64 0]) ∧ N = (encL l).length ∧ Own w' w.heap.size 5 1 A N c (bv (encL l))) ∨
    ((∃ s ∈ l, ¬ okS s) ∧ e = .returned (.tuple #[.slice none 0 0, .int .i64 2])))

def okTo (l : List St) (k : Nat) : Prop := ∀ s ∈ l.take k, okS s

/-- The relation of the loop. -/
def EncRel (w : World) (l : List St) (k : Nat) (A : Option Addr) (N c : Nat) (wr : World) : Prop :=
  okTo l k ∧ N = (encL (l.take k)).length ∧ Own wr w.heap.size 5 1 A N c (bv (encL (l.take k))) ∧ Below w.heap.size w wr

theorem okTo_succ {l : List St} {k : Nat} (h : k < l.length) (hok : okTo l k) (hs : okS l[k]) : okTo l (k + 1) := by
  intro s hm
  rw [List.take_succ_eq_append_getElem h, List.mem_append, List.mem_singleton] at hm
  rcases hm with hm | rfl
  · exact hok s hm
  · exact hs

theorem bv_car {s : St} (E : List UInt8) (hs : okS s) (hcar : carB s.op = true) :
    bv E ++ (#[Value.int .u8 s.op, .int .u8 s.a, .int .u8 s.b] : Array Value).toList ++ (#[Value.int .u8 ((s.data.length : Int) % 256), .int .u8 ((s.data.length : Int) / 256)] : Array Value).toList ++ bv s.data = bv (E ++ encS s) := by
  obtain ⟨q0, q1, q2, q3, q4, q5, q6, _⟩ := hs
  rw [encS_car hcar, ← List.append_assoc, ← List.append_assoc, bv_append, bv_append, bv_append]
  congr 2
  · simp only [bv, List.map_cons, List.map_nil]
    rw [u8_val q0 (by omega), u8_val q2 q3, u8_val q4 q5]
  · simp only [bv, List.map_cons, List.map_nil]
    rw [u8_val (by omega) (by omega), u8_val (by omega) (by omega)]
    simp

theorem bv_not {s : St} (E : List UInt8) (hs : okS s) (hcar : carB s.op = false) :
    bv E ++ (#[Value.int .u8 s.op, .int .u8 s.a, .int .u8 s.b] : Array Value).toList = bv (E ++ encS s) := by
  obtain ⟨q0, q1, q2, q3, q4, q5, q6, _⟩ := hs
  rw [encS_not hcar, bv_append]
  congr 1
  simp only [bv, List.map_cons, List.map_nil]
  rw [u8_val q0 (by omega), u8_val q2 q3, u8_val q4 q5]

theorem enc_close_car {l : List St} {k N : Nat} {s : St} {w w3 : World} {A3 : Option Addr} {c3 : Nat} (hlt : k < l.length) (hs : s = l[k]) (hok : okTo l k) (hoks : okS s) (hcar : carB s.op = true) (hN : N = (encL (l.take k)).length)
    (hown : Own w3 w.heap.size 5 1 A3 (N + 3 + 2 + s.data.length) c3 (bv (encL (l.take k)) ++ (#[Value.int .u8 s.op, .int .u8 s.a, .int .u8 s.b] : Array Value).toList ++ (#[Value.int .u8 ((s.data.length : Int) % 256), .int .u8 ((s.data.length : Int) / 256)] : Array Value).toList ++ bv s.data))
    (hb : Below w.heap.size w w3) : EncRel w l (k + 1) A3 (N + 3 + 2 + s.data.length) c3 w3 := by
  rw [bv_car _ hoks hcar] at hown
  subst hs
  rw [← encL_take_succ hlt] at hown
  refine ⟨okTo_succ hlt hok hoks, ?_, hown, hb⟩
  rw [encL_take_succ hlt, List.length_append, ← hN, encS_len_car hcar]
  omega

theorem enc_close_not {l : List St} {k N : Nat} {s : St} {w w3 : World} {A3 : Option Addr} {c3 : Nat} (hlt : k < l.length) (hs : s = l[k]) (hok : okTo l k) (hoks : okS s) (hcar : carB s.op = false) (hN : N = (encL (l.take k)).length)
    (hown : Own w3 w.heap.size 5 1 A3 (N + 3) c3 (bv (encL (l.take k)) ++ (#[Value.int .u8 s.op, .int .u8 s.a, .int .u8 s.b] : Array Value).toList))
    (hb : Below w.heap.size w w3) : EncRel w l (k + 1) A3 (N + 3) c3 w3 := by
  rw [bv_not _ hoks hcar] at hown
  subst hs
  rw [← encL_take_succ hlt] at hown
  refine ⟨okTo_succ hlt hok hoks, ?_, hown, hb⟩
  rw [encL_take_succ hlt, List.length_append, ← hN, encS_len_not hcar]

theorem enc_end {l : List St} {N c : Nat} {A : Option Addr} {w wr : World} (h : EncRel w l l.length A N c wr) : EncPost w l (.returned (.tuple #[.slice A N c, .int .i64 0])) wr := by
  obtain ⟨h1, h2, h3, h4⟩ := h
  rw [List.take_length] at h2 h3
  refine ⟨h4, .inl ⟨?_, A, N, c, rfl, h2, h3⟩⟩
  intro s hs
  exact h1 s (by rw [List.take_length]; exact hs)

theorem enc_bad {l : List St} {k : Nat} {s : St} {w wr : World} (hlt : k < l.length) (hs : s = l[k]) (hb : Below w.heap.size w wr) (hn : ¬ okS s) : EncPost w l (.returned (.tuple #[.slice none 0 0, .int .i64 2])) wr :=
  ⟨hb, .inr ⟨⟨s, by rw [hs]; exact List.getElem_mem hlt, hn⟩, rfl⟩⟩

/-- Why a step may not be: the first test that says so. -/
theorem bad_cases {s : St} (h : ¬ okS s) : s.op < 0 ∨ (0 ≤ s.op ∧ 15 < s.op) ∨ (0 ≤ s.op ∧ s.op ≤ 15 ∧ s.a < 0) ∨ (0 ≤ s.op ∧ s.op ≤ 15 ∧ 0 ≤ s.a ∧ 255 < s.a) ∨ (0 ≤ s.op ∧ s.op ≤ 15 ∧ 0 ≤ s.a ∧ s.a ≤ 255 ∧ s.b < 0) ∨
    (0 ≤ s.op ∧ s.op ≤ 15 ∧ 0 ≤ s.a ∧ s.a ≤ 255 ∧ 0 ≤ s.b ∧ 255 < s.b) ∨ (0 ≤ s.op ∧ s.op ≤ 15 ∧ 0 ≤ s.a ∧ s.a ≤ 255 ∧ 0 ≤ s.b ∧ s.b ≤ 255 ∧ 65535 < s.data.length) ∨
    (0 ≤ s.op ∧ s.op ≤ 15 ∧ 0 ≤ s.a ∧ s.a ≤ 255 ∧ 0 ≤ s.b ∧ s.b ≤ 255 ∧ s.data.length ≤ 65535 ∧ 0 < s.data.length ∧ carB s.op = false) := by
  unfold okS at h
  by_cases c0 : s.op < 0
  · exact .inl c0
  by_cases c1 : 15 < s.op
  · omega
  by_cases c2 : s.a < 0
  · omega
  by_cases c3 : 255 < s.a
  · omega
  by_cases c4 : s.b < 0
  · omega
  by_cases c5 : 255 < s.b
  · omega
  by_cases c6 : 65535 < s.data.length
  · omega
  refine .inr (.inr (.inr (.inr (.inr (.inr (.inr ⟨by omega, by omega, by omega, by omega, by omega, by omega, by omega, ?_⟩))))))
  by_cases c7 : 0 < s.data.length
  · refine ⟨c7, ?_⟩
    cases hc : carB s.op
    · rfl
    · exact absurd ⟨by omega, by omega, by omega, by omega, by omega, by omega, by omega, fun _ => hc⟩ h
  · exact absurd ⟨by omega, by omega, by omega, by omega, by omega, by omega, by omega, fun h => absurd h c7⟩ h

set_option maxRecDepth 100000 in
set_option maxHeartbeats 2000000 in
theorem enc_any (l : List St) (A : Option Addr) (c B : Nat) (w : World) (hst : StAt w B 4 A l) (hB : B ≤ w.heap.size) (hl : l.length ≤ 140737488355328) (hn : (encL l).length ≤ 140737488355328) :
    Calls Try.prog 8 #[.slice A l.length c] w (EncPost w l) := by
  go_enter Try.func8, Try.ntmps8
  go_wp2
  go_loopw [4, 9] (fun o i wr => ∃ (k : Nat) (A' : Option Addr) (N c' : Nat), k ≤ l.length ∧ i = .int .i64 k ∧ o = .slice A' N c' ∧ EncRel w l k A' N c' wr) (fun _ i _ => l.length - (intOf i).toNat)
  case atStart => exact ⟨0, none, 0, 0, Nat.zero_le _, rfl, rfl, by simp [okTo], by simp [encL], Own.nil_ _ _ _ _, Below.refl _ _⟩
  case round =>
    obtain ⟨k, A', N, c', hk, rfl, rfl, hrel⟩ := hrel
    by_cases hlt : k < l.length
    · obtain ⟨hok, hN, hown, hbel⟩ := hrel
      obtain ⟨b, o, D, d, rfl, hbB, h0, h1, h2, h3, hr⟩ := hst k hlt
      replace h0 := (hbel.cell (p := ⟨b, o + k * 4, none⟩) (by exact Nat.lt_of_lt_of_le hbB hB)).trans h0
      replace h1 := (hbel.cell (p := ⟨b, o + k * 4 + 1, none⟩) (by exact Nat.lt_of_lt_of_le hbB hB)).trans h1
      replace h2 := (hbel.cell (p := ⟨b, o + k * 4 + 2, none⟩) (by exact Nat.lt_of_lt_of_le hbB hB)).trans h2
      replace h3 := (hbel.cell (p := ⟨b, o + k * 4 + 3, none⟩) (by exact Nat.lt_of_lt_of_le hbB hB)).trans h3
      have hNle := encL_take_le l (k + 1)
      rw [encL_take_succ hlt, List.length_append, ← hN] at hNle
      obtain ⟨s, hs⟩ : ∃ s, s = l[k] := ⟨_, rfl⟩
      rw [← hs] at h0 h1 h2 h3 hr hNle
      have HN := Lib.hid hN
      have HS := Lib.hid hs
      clear hN hs hst
      by_cases hoks : okS s
      · have HO := Lib.hid hoks
        obtain ⟨q0, q1, q2, q3, q4, q5, q6, q7⟩ := hoks
        have d0 : decide (s.op < 0) = false := by simp; omega
        have d1 : decide (15 < s.op) = false := by simp; omega
        have d2 : decide (s.a < 0) = false := by simp; omega
        have d3 : decide (255 < s.a) = false := by simp; omega
        have d4 : decide (s.b < 0) = false := by simp; omega
        have d5 : decide (255 < s.b) = false := by simp; omega
        have d6 : decide (65535 < (s.data.length : Int)) = false := by simp; omega
        cases hcar : carB s.op
        · have d7 : decide (0 < s.data.length) = false := by
            rcases Nat.eq_zero_or_pos s.data.length with h | h
            · simp [h]
            · rw [q7 h] at hcar; cases hcar
          clear q7
          rw [encS_len_not hcar] at hNle
          go_wp2_with (first
            | (go_at_call 19; refine (carries_any _ _).mono ?_; rintro e w1 ⟨rfl, rfl⟩)
            | (at_builtin; refine wpList_app_new rfl (.tmp 59) (.tmp 69) 24 rfl w.heap.size 5 1 1 Try.el24 A' N c' _ rfl (hown.alloc _) _ (wr.heap.size + 1) 3 3 (by simp) rfl rfl (one3 _ _ _ _ _ _) (N + 3) _ rfl rfl (by omega) (by unfold maxLen; omega) (by have := hbel.size; simp; omega) ?_; intro A1 c1 w1 hown1 hg1 hat1; have b1 := below_own (hbel.alloc hbel.size _) hg1 (hown.alloc _) (by simp; exact Nat.le_succ_of_le hbel.size); have e0 := grown_cell hg1 (p := ⟨wr.heap.size, 0, none⟩) (v := .int .i64 s.op) (by simp) (hown.blk_new (Nat.le_refl _)); have e3 := grown_cell hg1 (p := ⟨wr.heap.size, 3, none⟩) (v := .slice D s.data.length d) (by simp) (hown.blk_new (Nat.le_refl _)))
            | fail)
          go_roundw
          case rel => exact ⟨k + 1, A1, N + 3, c1, by omega, by go_num, rfl, enc_close_not hlt HS.out hok HO.out hcar HN.out hown1 b1⟩
          case measure => simp [intOf]; omega
        · clear q7
          rw [encS_len_car hcar] at hNle
          cases d7 : decide (0 < s.data.length)
          all_goals
            go_wp2_with (first
              | (go_at_call 19; refine (carries_any _ _).mono ?_; rintro e w1 ⟨rfl, rfl⟩)
              | (at_builtin; refine wpList_app_new rfl (.tmp 59) (.tmp 69) 24 rfl w.heap.size 5 1 1 Try.el24 A' N c' _ rfl (hown.alloc _) _ (wr.heap.size + 1) 3 3 (by simp) rfl rfl (one3 _ _ _ _ _ _) (N + 3) _ rfl rfl (by omega) (by unfold maxLen; omega) (by have := hbel.size; simp; omega) ?_; intro A1 c1 w1 hown1 hg1 hat1; have b1 := below_own (hbel.alloc hbel.size _) hg1 (hown.alloc _) (by simp; exact Nat.le_succ_of_le hbel.size); have e0 := grown_cell hg1 (p := ⟨wr.heap.size, 0, none⟩) (v := .int .i64 s.op) (by simp) (hown.blk_new (Nat.le_refl _)); have e3 := grown_cell hg1 (p := ⟨wr.heap.size, 3, none⟩) (v := .slice D s.data.length d) (by simp) (hown.blk_new (Nat.le_refl _)))
              | (at_builtin; refine wpList_app_new rfl (.tmp 74) (.tmp 84) 24 rfl w.heap.size 5 1 1 Try.el24 A1 (N + 3) c1 _ rfl hown1 _ w1.heap.size 2 2 (by simp) rfl rfl (one2 _ _ _ _) (N + 3 + 2) _ rfl rfl (by omega) (by unfold maxLen; omega) b1.size ?_; intro A2 c2 w2 hown2 hg2 hat2; have b2 := below_own b1 hg2 hown1 b1.size; have e4 := grown_cell hg2 (p := ⟨wr.heap.size, 3, none⟩) e3 (blk_ne hat1 (hown.blk_new (Nat.le_refl _)) (by simp; omega)))
              | (at_builtin; refine wpList_app rfl (.tmp 86) (.tmp 88) 24 rfl w.heap.size 5 1 1 Try.el24 A2 (N + 3 + 2) c2 _ rfl hown2 B D s.data.length d (bv s.data) rfl (hr.below (b2.mono hB)) (by simp [bv]) (bv_one _) (N + 3 + 2 + s.data.length) _ rfl rfl (by omega) (by unfold maxLen; omega) b2.size ?_; intro A3 c3 w3 hown3 hg3 hat3; have b3 := below_own b2 hg3 hown2 b2.size)
              | fail)
            go_roundw
            case rel => exact ⟨k + 1, A3, N + 3 + 2 + s.data.length, c3, by omega, by go_num, rfl, enc_close_car hlt HS.out hok HO.out hcar HN.out hown3 b3⟩
            case measure => simp [intOf]; omega
      · have HB := Lib.hid (enc_bad hlt HS.out ((hbel.alloc hbel.size (.cells #[.int .i64 s.op, .int .i64 s.a, .int .i64 s.b, .slice D s.data.length d] 26))) hoks)
        have hcs := bad_cases hoks
        clear hoks hNle
        rcases hcs with q0 | ⟨q0, q1⟩ | ⟨q0, q1, q2⟩ | ⟨q0, q1, q2, q3⟩ | ⟨q0, q1, q2, q3, q4⟩ | ⟨q0, q1, q2, q3, q4, q5⟩ | ⟨q0, q1, q2, q3, q4, q5, q6⟩ | ⟨q0, q1, q2, q3, q4, q5, q6, q7, q8⟩
        all_goals
          go_wp2_with (first
              | (go_at_call 19; refine (carries_any _ _).mono ?_; rintro e w1 ⟨rfl, rfl⟩)
              | fail)
          go_ret2
          exact HB.out
    · obtain rfl : k = l.length := by omega
      have HE := Lib.hid (enc_end hrel)
      clear hrel
      go_wp2
      go_ret2
      exact HE.out

end Go.Proofs.Ytpafimjdlbnckaa
