/-
  The walk of turnpikeref02.Encode.
-/
import Derived.Test.YtpafimjdlbnckaaEnc
namespace Go.Proofs.Ytpafimjdlbnckaa
open Go.RowKit

/-- What the reference's Encode leaves. -/
def EncRPost (w : World) (l : List St) (e : Ending) (w' : World) : Prop :=
  Below w.heap.size w w' ∧ (((∀ s ∈ l, okS s) ∧ ∃ A N c, e = .returned (.tuple #[.slice A N c, .bool true]) ∧ N = (encL l).length ∧ Own w' w.heap.size 5 1 A N c (bv (encL l))) ∨
    ((∃ s ∈ l, ¬ okS s) ∧ e = .returned (.tuple #[.slice none 0 0, .bool false])))

theorem encR_end {l : List St} {N c : Nat} {A : Option Addr} {w wr : World} (h : EncRel w l l.length A N c wr) : EncRPost w l (.returned (.tuple #[.slice A N c, .bool true])) wr := by
  obtain ⟨h1, h2, h3, h4⟩ := h
  rw [List.take_length] at h2 h3
  refine ⟨h4, .inl ⟨?_, A, N, c, rfl, h2, h3⟩⟩
  intro s hs
  exact h1 s (by rw [List.take_length]; exact hs)

theorem encR_bad {l : List St} {k : Nat} {s : St} {w wr : World} (hlt : k < l.length) (hs : s = l[k]) (hb : Below w.heap.size w wr) (hn : ¬ okS s) : EncRPost w l (.returned (.tuple #[.slice none 0 0, .bool false])) wr :=
  ⟨hb, .inr ⟨⟨s, by rw [hs]; exact List.getElem_mem hlt, hn⟩, rfl⟩⟩

set_option maxRecDepth 100000 in
set_option maxHeartbeats 2000000 in
theorem encR_any (l : List St) (A : Option Addr) (c B : Nat) (w : World) (f : Nat → Int) (hst : StAt5 w B A l f) (hB : B ≤ w.heap.size) (hl : l.length ≤ 140737488355328) (hn : (encL l).length ≤ 140737488355328) :
    Calls Try.prog 9 #[.slice A l.length c] w (EncRPost w l) := by
  go_enter Try.func9, Try.ntmps9
  go_wp2
  go_loopw [4, 5] (fun o i wr => ∃ (k : Nat) (A' : Option Addr) (N c' : Nat), k ≤ l.length ∧ i = .int .i64 k ∧ o = .slice A' N c' ∧ EncRel w l k A' N c' wr) (fun _ i _ => l.length - (intOf i).toNat)
  case atStart => exact ⟨0, none, 0, 0, Nat.zero_le _, rfl, rfl, by simp [okTo], by simp [encL], Own.nil_ _ _ _ _, Below.refl _ _⟩
  case round =>
    obtain ⟨k, A', N, c', hk, rfl, rfl, hrel⟩ := hrel
    by_cases hlt : k < l.length
    · obtain ⟨hok, hN, hown, hbel⟩ := hrel
      obtain ⟨b, o, D, d, rfl, hbB, h0, h1, h2, h3, h4, hr⟩ := hst k hlt
      replace h0 := (hbel.cell (p := ⟨b, o + k * 5, none⟩) (by exact Nat.lt_of_lt_of_le hbB hB)).trans h0
      replace h1 := (hbel.cell (p := ⟨b, o + k * 5 + 1, none⟩) (by exact Nat.lt_of_lt_of_le hbB hB)).trans h1
      replace h2 := (hbel.cell (p := ⟨b, o + k * 5 + 2, none⟩) (by exact Nat.lt_of_lt_of_le hbB hB)).trans h2
      replace h3 := (hbel.cell (p := ⟨b, o + k * 5 + 3, none⟩) (by exact Nat.lt_of_lt_of_le hbB hB)).trans h3
      replace h4 := (hbel.cell (p := ⟨b, o + k * 5 + 4, none⟩) (by exact Nat.lt_of_lt_of_le hbB hB)).trans h4
      have hNle := encL_take_le l (k + 1)
      rw [encL_take_succ hlt, List.length_append, ← hN] at hNle
      obtain ⟨s, hs⟩ : ∃ s, s = l[k] := ⟨_, rfl⟩
      rw [← hs] at h0 h1 h2 h3 hr hNle
      have HN := Lib.hid hN
      have HS := Lib.hid hs
      clear hN hs hst
      by_cases hoks : okS s
      · have HO := Lib.hid hoks
        obtain ⟨q0, q1, q2, q3, q4, q5, q6, q7⟩ := hoks
        have d0 : decide (s.op < 0) = false := by simp; omega
        have d1 : decide (15 < s.op) = false := by simp; omega
        have d2 : decide (s.a < 0) = false := by simp; omega
        have d3 : decide (255 < s.a) = false := by simp; omega
        have d4 : decide (s.b < 0) = false := by simp; omega
        have d5 : decide (255 < s.b) = false := by simp; omega
        have d6 : decide (65535 < (s.data.length : Int)) = false := by simp; omega
        cases hcar : carB s.op
        · have d7 : decide (0 < s.data.length) = false := by
            rcases Nat.eq_zero_or_pos s.data.length with h | h
            · simp [h]
            · rw [q7 h] at hcar; cases hcar
          clear q7
          rw [encS_len_not hcar] at hNle
          go_wp2_with (first
            | (go_at_call 20; refine (rcarries_any _ _).mono ?_; rintro e w1 ⟨rfl, rfl⟩)
            | (at_builtin; refine wpList_app_new rfl (.tmp 61) (.tmp 71) 24 rfl w.heap.size 5 1 1 Try.el24 A' N c' _ rfl (hown.alloc _) _ (wr.heap.size + 1) 3 3 (by simp) rfl rfl (one3 _ _ _ _ _ _) (N + 3) _ rfl rfl (by omega) (by unfold maxLen; omega) (by have := hbel.size; simp; omega) ?_; intro A1 c1 w1 hown1 hg1 hat1; have b1 := below_own (hbel.alloc hbel.size _) hg1 (hown.alloc _) (by simp; exact Nat.le_succ_of_le hbel.size); have e0 := grown_cell hg1 (p := ⟨wr.heap.size, 0, none⟩) (v := .int .i64 s.op) (by simp) (hown.blk_new (Nat.le_refl _)); have e3 := grown_cell hg1 (p := ⟨wr.heap.size, 3, none⟩) (v := .slice D s.data.length d) (by simp) (hown.blk_new (Nat.le_refl _)))
            | fail)
          go_roundw
          case rel => exact ⟨k + 1, A1, N + 3, c1, by omega, by go_num, rfl, enc_close_not hlt HS.out hok HO.out hcar HN.out hown1 b1⟩
          case measure => simp [intOf]; omega
        · clear q7
          rw [encS_len_car hcar] at hNle
          cases d7 : decide (0 < s.data.length)
          all_goals
            go_wp2_with (first
              | (go_at_call 20; refine (rcarries_any _ _).mono ?_; rintro e w1 ⟨rfl, rfl⟩)
              | (at_builtin; refine wpList_app_new rfl (.tmp 61) (.tmp 71) 24 rfl w.heap.size 5 1 1 Try.el24 A' N c' _ rfl (hown.alloc _) _ (wr.heap.size + 1) 3 3 (by simp) rfl rfl (one3 _ _ _ _ _ _) (N + 3) _ rfl rfl (by omega) (by unfold maxLen; omega) (by have := hbel.size; simp; omega) ?_; intro A1 c1 w1 hown1 hg1 hat1; have b1 := below_own (hbel.alloc hbel.size _) hg1 (hown.alloc _) (by simp; exact Nat.le_succ_of_le hbel.size); have e0 := grown_cell hg1 (p := ⟨wr.heap.size, 0, none⟩) (v := .int .i64 s.op) (by simp) (hown.blk_new (Nat.le_refl _)); have e3 := grown_cell hg1 (p := ⟨wr.heap.size, 3, none⟩) (v := .slice D s.data.length d) (by simp) (hown.blk_new (Nat.le_refl _)))
              | (at_builtin; refine wpList_app_new rfl (.tmp 76) (.tmp 87) 24 rfl w.heap.size 5 1 1 Try.el24 A1 (N + 3) c1 _ rfl hown1 _ w1.heap.size 2 2 (by simp) rfl rfl (one2 _ _ _ _) (N + 3 + 2) _ rfl rfl (by omega) (by unfold maxLen; omega) b1.size ?_; intro A2 c2 w2 hown2 hg2 hat2; have b2 := below_own b1 hg2 hown1 b1.size; have e4 := grown_cell hg2 (p := ⟨wr.heap.size, 3, none⟩) e3 (blk_ne hat1 (hown.blk_new (Nat.le_refl _)) (by simp; omega)))
              | (at_builtin; refine wpList_app rfl (.tmp 89) (.tmp 91) 24 rfl w.heap.size 5 1 1 Try.el24 A2 (N + 3 + 2) c2 _ rfl hown2 B D s.data.length d (bv s.data) rfl (hr.below (b2.mono hB)) (by simp [bv]) (bv_one _) (N + 3 + 2 + s.data.length) _ rfl rfl (by omega) (by unfold maxLen; omega) b2.size ?_; intro A3 c3 w3 hown3 hg3 hat3; have b3 := below_own b2 hg3 hown2 b2.size)
              | fail)
            go_roundw
            case rel => exact ⟨k + 1, A3, N + 3 + 2 + s.data.length, c3, by omega, by go_num, rfl, enc_close_car hlt HS.out hok HO.out hcar HN.out hown3 b3⟩
            case measure => simp [intOf]; omega
      · have HB := Lib.hid (encR_bad hlt HS.out ((hbel.alloc hbel.size (.cells #[.int .i64 s.op, .int .i64 s.a, .int .i64 s.b, .slice D s.data.length d, .int .i64 (f k)] 29))) hoks)
        have hcs := bad_cases hoks
        clear hoks hNle
        rcases hcs with q0 | ⟨q0, q1⟩ | ⟨q0, q1, q2⟩ | ⟨q0, q1, q2, q3⟩ | ⟨q0, q1, q2, q3, q4⟩ | ⟨q0, q1, q2, q3, q4, q5⟩ | ⟨q0, q1, q2, q3, q4, q5, q6⟩ | ⟨q0, q1, q2, q3, q4, q5, q6, q7, q8⟩
        all_goals
          go_wp2_with (first
              | (go_at_call 20; refine (rcarries_any _ _).mono ?_; rintro e w1 ⟨rfl, rfl⟩)
              | fail)
          go_ret2
          exact HB.out
    · obtain rfl : k = l.length := by omega
      have HE := Lib.hid (encR_end hrel)
      clear hrel
      go_wp2
      go_ret2
      exact HE.out

end Go.Proofs.Ytpafimjdlbnckaa
