/-
  The walks of NewReader, Waits, Dead; of a nil reader's Feed; of same and messages where the messages are the same.
-/
import Derived.Test.YtbhjcfhpabnadaaTur
import Derived.Test.YtbhjcfhpabnadaaFR
namespace Go.Proofs.Ytbhjcfhpabnadaa
open Go.RowKit

set_option maxHeartbeats 400000 in
theorem newReader_any (w : World) : Calls Try.prog 40 #[] w fun e w' => e = .returned (.pointer (some ⟨w.heap.size, 0, none⟩)) ∧ w' = w.alloc (.cells #[.slice none 0 0, .bool false] 115) := by
  go_enter Try.func40, Try.ntmps40
  go_wp2
  go_ret
  exact ⟨rfl, rfl⟩
theorem newReader_at (w : World) : Calls Try.prog 40 #[] w fun e w' => e = .returned (.pointer (some ⟨w.heap.size, 0, none⟩)) ∧ Rdr w' 115 w.heap.size w.heap.size none ⟨[], false⟩ ∧ Below w.heap.size w w' ∧ w'.heap.size = w.heap.size + 1 := by
  refine (newReader_any w).mono ?_
  rintro e w' ⟨rfl, rfl⟩
  exact ⟨rfl, ⟨⟨0, new_at w _, Own.nil_ _ _ _ _⟩, fun _ => rfl⟩, (Below.refl _ _).alloc (Nat.le_refl _) _, by simp⟩

set_option maxHeartbeats 400000 in
theorem waits_nil (w : World) : Calls Try.prog 41 #[.pointer none] w fun e w' => e = .returned (.int .i64 0) ∧ w = w' := by
  go_enter Try.func41, Try.ntmps41
  go_wp2
  go_ret
  exact ⟨rfl, rfl⟩
set_option maxHeartbeats 400000 in
theorem waits_any {w : World} {base g : Nat} {A : Option Addr} {s : RSt} (h : Rdr w 115 base g A s) : Calls Try.prog 41 #[.pointer (some ⟨g, 0, none⟩)] w fun e w' => e = .returned (.int .i64 s.waits.length) ∧ w = w' := by
  obtain ⟨⟨c, h1, _⟩, _⟩ := h
  have x0 := cellAt h1 (j := 0) rfl
  clear h1
  go_enter Try.func41, Try.ntmps41
  go_wp2
  go_ret
  exact ⟨rfl, rfl⟩
set_option maxHeartbeats 400000 in
theorem dead_nil (w : World) : Calls Try.prog 42 #[.pointer none] w fun e w' => e = .returned (.bool false) ∧ w = w' := by
  go_enter Try.func42, Try.ntmps42
  go_wp2
  go_ret
  exact ⟨rfl, rfl⟩
set_option maxHeartbeats 400000 in
theorem dead_any {w : World} {base g : Nat} {A : Option Addr} {s : RSt} (h : Rdr w 115 base g A s) : Calls Try.prog 42 #[.pointer (some ⟨g, 0, none⟩)] w fun e w' => e = .returned (.bool s.dead) ∧ w = w' := by
  obtain ⟨⟨c, h1, _⟩, _⟩ := h
  have x0 := cellAt h1 (j := 1) rfl
  clear h1
  go_enter Try.func42, Try.ntmps42
  go_wp2
  go_ret
  exact ⟨rfl, rfl⟩
set_option maxHeartbeats 400000 in
theorem feed_nil (S : Option Addr) (n c : Nat) (w : World) : Calls Try.prog 43 #[.pointer none, .slice S n c] w fun e w' => e = .returned (.tuple #[.slice none 0 0, .int .i64 1]) ∧ w = w' := by
  go_enter Try.func43, Try.ntmps43
  go_wp2
  go_ret2
  exact ⟨rfl, rfl⟩

/-- What lent leaves, its length under a name. -/
def LentN (w : World) (xs : List UInt8) (n : Nat) (e : Ending) (w' : World) : Prop :=
  ∃ g cap, e = .returned (.slice (some ⟨g, 0, none⟩) n cap) ∧ Copy w' w.heap.size g cap xs ∧ n + 2 ≤ cap ∧ Below w.heap.size w w'
theorem lent36_n (xs : List UInt8) (n : Nat) (hn : n = xs.length) (A : Option Addr) (c B : Nat) (w : World) (hx : Rd w B A (bv xs)) (hl : n ≤ 140737488355326) :
    Calls Try.prog 36 #[.slice A n c] w (LentN w xs n) := by
  refine (lent36_at xs n hn A c B w hx (by omega)).mono ?_
  rintro e w' ⟨g, cap, he, hc, hb⟩
  exact ⟨g, cap, by rw [he, hn], hc, by have := hc.1; omega, hb⟩

/-- The cells of one message of a row. -/
theorem Own.msg {w : World} {base e n c k : Nat} {A : Option Addr} {l : List Msg} {kd ve fr no er : Int} {nm tx : ByteArray} (h : Own w base e 7 A n c (mv l)) (hm : l[k]? = some ⟨kd, nm, ve, fr, no, er, tx⟩) : ∃ g, A = some ⟨g, 0, none⟩ ∧ g < w.heap.size ∧
    w.cell? ⟨g, k * 7, none⟩ = some (.int .i64 kd) ∧ w.cell? ⟨g, k * 7 + 1, none⟩ = some (.string nm) ∧ w.cell? ⟨g, k * 7 + 2, none⟩ = some (.int .i64 ve) ∧ w.cell? ⟨g, k * 7 + 3, none⟩ = some (.int .i64 fr) ∧
    w.cell? ⟨g, k * 7 + 4, none⟩ = some (.int .i64 no) ∧ w.cell? ⟨g, k * 7 + 5, none⟩ = some (.int .i64 er) ∧ w.cell? ⟨g, k * 7 + 6, none⟩ = some (.string tx) := by
  have hk : k < l.length := (List.getElem?_eq_some_iff.1 hm).1
  have hl := h.len
  rw [mv_len] at hl
  obtain ⟨g, rfl, _, hg, _⟩ := h.form_pos (by omega)
  have at_ : ∀ j v, j < 7 → (msgC ⟨kd, nm, ve, fr, no, er, tx⟩)[j]? = some v → w.cell? ⟨g, k * 7 + j, none⟩ = some v := fun j v hj hv => by
    obtain ⟨a, ha, _, hc⟩ := h.rd (k * 7 + j) v ((mv_get l k j _ hm hj).trans hv)
    obtain rfl := Option.some.inj ha
    rw [Addr.add_lit, Nat.zero_add] at hc
    exact hc
  exact ⟨g, rfl, hg, at_ 0 _ (by omega) rfl, at_ 1 _ (by omega) rfl, at_ 2 _ (by omega) rfl, at_ 3 _ (by omega) rfl, at_ 4 _ (by omega) rfl, at_ 5 _ (by omega) rfl, at_ 6 _ (by omega) rfl⟩

set_option maxRecDepth 100000 in
set_option maxHeartbeats 1000000 in
theorem same_any (l : List Msg) (n : Nat) (hn : n = l.length) (O1 O2 : Option Addr) (c1 c2 b1 b2 : Nat) (w : World) (h1 : Own w b1 60 7 O1 n c1 (mv l)) (h2 : Own w b2 60 7 O2 n c2 (mv l)) (hl : n ≤ 16777216) :
    Calls Try.prog 51 #[.slice O1 n c1, .slice O2 n c2] w fun e w' => e = .returned (.bool true) ∧ ∃ m, w' = w.drewN m := by
  have HN := Lib.hid hn
  clear hn
  go_enter Try.func51, Try.ntmps51
  go_wp2
  go_loopw [5] (fun i wr => ∃ k : Nat, k ≤ n ∧ i = .int .i64 k ∧ Hid (∃ m, wr = w.drewN m)) (fun i _ => n - (intOf i).toNat)
  case atStart => exact ⟨0, Nat.zero_le _, rfl, ⟨0, rfl⟩⟩
  case round =>
    obtain ⟨k, hk, rfl, hw⟩ := hrel
    by_cases hlt : k < n
    · have hlk : k < l.length := by rw [← HN.out]; exact hlt
      obtain ⟨m, hm⟩ : ∃ m, m = l[k] := ⟨_, rfl⟩
      obtain ⟨kd, nm, ve, fr, no, er, tx⟩ := m
      have hme : l[k]? = some ⟨kd, nm, ve, fr, no, er, tx⟩ := by rw [hm]; exact List.getElem?_eq_getElem hlk
      have g1 : Own wr b1 60 7 O1 n c1 (mv l) := by obtain ⟨m, e⟩ := hw.out; rw [e]; exact h1
      have g2 : Own wr b2 60 7 O2 n c2 (mv l) := by obtain ⟨m, e⟩ := hw.out; rw [e]; exact h2
      obtain ⟨ga, rfl, _, x0, x1, x2, x3, x4, x5, x6⟩ := g1.msg hme
      obtain ⟨gb, rfl, _, y0, y1, y2, y3, y4, y5, y6⟩ := g2.msg hme
      have hk1 : (0 : Int) ≤ (k : Int) := by omega
      have hk2 : (k : Int) < (n : Int) := by omega
      clear hm hme g1 g2 h1 h2
      go_wp2
      go_quiet (fail)
      go_wp2
      go_roundw
      case rel => exact ⟨k + 1, by omega, by go_num, by obtain ⟨m, e⟩ := hw.out; rw [e]; exact ⟨m + nq, by rw [World.drewN_drewN]⟩⟩
      case measure => simp [intOf]; omega
    · go_wp2
      go_ret
      exact ⟨rfl, hw.out⟩

set_option maxRecDepth 100000 in
set_option maxHeartbeats 2000000 in
theorem messages_any (l : List Msg) (n : Nat) (hn : n = l.length) (O1 O2 : Option Addr) (c1 c2 b1 b2 : Nat) (w : World) (h1 : Own w b1 60 7 O1 n c1 (mv l)) (h2 : Own w b2 57 7 O2 n c2 (mv l)) (hl : n ≤ 16777216) :
    Calls Try.prog 45 #[.slice O1 n c1, .slice O2 n c2] w fun e w' => e = .returned (.bool true) ∧ Below w.heap.size w w' := by
  have HN := Lib.hid hn
  clear hn
  go_enter Try.func45, Try.ntmps45
  go_wp2
  go_loopw [5] (fun i wr => ∃ k : Nat, k ≤ n ∧ i = .int .i64 k ∧ Hid (Below w.heap.size w wr)) (fun i _ => n - (intOf i).toNat)
  case atStart => exact ⟨0, Nat.zero_le _, rfl, Below.refl _ _⟩
  case round =>
    obtain ⟨k, hk, rfl, hw⟩ := hrel
    by_cases hlt : k < n
    · have hlk : k < l.length := by rw [← HN.out]; exact hlt
      obtain ⟨m, hm⟩ : ∃ m, m = l[k] := ⟨_, rfl⟩
      obtain ⟨kd, nm, ve, fr, no, er, tx⟩ := m
      have hme : l[k]? = some ⟨kd, nm, ve, fr, no, er, tx⟩ := by rw [hm]; exact List.getElem?_eq_getElem hlk
      have g1 := h1.below hw.out (Nat.le_refl _)
      have g2 := h2.below hw.out (Nat.le_refl _)
      obtain ⟨ga, rfl, la, x0, x1, x2, x3, x4, x5, x6⟩ := g1.msg hme
      obtain ⟨gb, rfl, lb, y0, y1, y2, y3, y4, y5, y6⟩ := g2.msg hme
      have hk1 : (0 : Int) ≤ (k : Int) := by omega
      have hk2 : (k : Int) < (n : Int) := by omega
      clear hm hme g1 g2 h1 h2
      go_wp2
      go_region_held3 (fun w' => w'.cell? ⟨ga, k * 7, none⟩ = some (.int .i64 kd) ∧ w'.cell? ⟨ga, k * 7 + 1, none⟩ = some (.string nm) ∧ w'.cell? ⟨ga, k * 7 + 2, none⟩ = some (.int .i64 ve) ∧ w'.cell? ⟨ga, k * 7 + 3, none⟩ = some (.int .i64 fr) ∧ w'.cell? ⟨ga, k * 7 + 4, none⟩ = some (.int .i64 no) ∧ w'.cell? ⟨ga, k * 7 + 5, none⟩ = some (.int .i64 er) ∧ w'.cell? ⟨ga, k * 7 + 6, none⟩ = some (.string tx) ∧
        w'.cell? ⟨gb, k * 7, none⟩ = some (.int .i64 kd) ∧ w'.cell? ⟨gb, k * 7 + 1, none⟩ = some (.string nm) ∧ w'.cell? ⟨gb, k * 7 + 2, none⟩ = some (.int .i64 ve) ∧ w'.cell? ⟨gb, k * 7 + 3, none⟩ = some (.int .i64 fr) ∧ w'.cell? ⟨gb, k * 7 + 4, none⟩ = some (.int .i64 no) ∧ w'.cell? ⟨gb, k * 7 + 5, none⟩ = some (.int .i64 er) ∧ w'.cell? ⟨gb, k * 7 + 6, none⟩ = some (.string tx))
        (first
          | exact ⟨x0, x1, x2, x3, x4, x5, x6, y0, y1, y2, y3, y4, y5, y6⟩
          | exact ⟨(b5.cell la).trans x0, (b5.cell la).trans x1, (b5.cell la).trans x2, (b5.cell la).trans x3, (b5.cell la).trans x4, (b5.cell la).trans x5, (b5.cell la).trans x6, (b5.cell lb).trans y0, (b5.cell lb).trans y1, (b5.cell lb).trans y2, (b5.cell lb).trans y3, (b5.cell lb).trans y4, (b5.cell lb).trans y5, (b5.cell lb).trans y6⟩)
        ((go_at_call 34; refine (own_any kd nm tx ve fr no er _).mono ?_; rintro e w5 ⟨rfl, b5⟩))
      have hb5 : Below wr.heap.size wr w5 := (Below.refl _ wr).drew.trans b5
      clear x0 x1 x2 x3 x4 x5 x6 y0 y1 y2 y3 y4 y5 y6
      go_wp2
      go_roundw
      case rel => exact ⟨k + 1, by omega, by go_num, hw.out.trans (hb5.mono hw.out.size)⟩
      case measure => simp [intOf]; omega
    · go_wp2
      go_ret
      exact ⟨rfl, hw.out⟩

end Go.Proofs.Ytbhjcfhpabnadaa
