/-
  The walks of turnpikelaw19's same and messages, where the messages are the same.
-/
import Derived.Test.YtbhjcfhpabnadaaTur
namespace Go.Proofs.Ytbhjcfhpabnadaa
open Go.RowKit

/-- The cells of one message of a row. -/
theorem Own.msg {w : World} {base e n c k : Nat} {A : Option Addr} {l : List Msg} {kd ve fr no er : Int} {nm tx : ByteArray} (h : Own w base e 7 A n c (mv l)) (hm : l[k]? = some ⟨kd, nm, ve, fr, no, er, tx⟩) : ∃ g, A = some ⟨g, 0, none⟩ ∧ g < w.heap.size ∧
    w.cell? ⟨g, k * 7, none⟩ = some (.int .i64 kd) ∧ w.cell? ⟨g, k * 7 + 1, none⟩ = some (.string nm) ∧ w.cell? ⟨g, k * 7 + 2, none⟩ = some (.int .i64 ve) ∧ w.cell? ⟨g, k * 7 + 3, none⟩ = some (.int .i64 fr) ∧
    w.cell? ⟨g, k * 7 + 4, none⟩ = some (.int .i64 no) ∧ w.cell? ⟨g, k * 7 + 5, none⟩ = some (.int .i64 er) ∧ w.cell? ⟨g, k * 7 + 6, none⟩ = some (.string tx) := by
  have hk : k < l.length := (List.getElem?_eq_some_iff.1 hm).1
  have hl := h.len
  rw [mv_len] at hl
  obtain ⟨g, rfl, _, hg, _⟩ := h.form_pos (by omega)
  have at_ : ∀ j v, j < 7 → (msgC ⟨kd, nm, ve, fr, no, er, tx⟩)[j]? = some v → w.cell? ⟨g, k * 7 + j, none⟩ = some v := fun j v hj hv => by
    obtain ⟨a, ha, _, hc⟩ := h.rd (k * 7 + j) v ((mv_get l k j _ hm hj).trans hv)
    obtain rfl := Option.some.inj ha
    rw [Addr.add_lit, Nat.zero_add] at hc
    exact hc
  exact ⟨g, rfl, hg, at_ 0 _ (by omega) rfl, at_ 1 _ (by omega) rfl, at_ 2 _ (by omega) rfl, at_ 3 _ (by omega) rfl, at_ 4 _ (by omega) rfl, at_ 5 _ (by omega) rfl, at_ 6 _ (by omega) rfl⟩

set_option maxRecDepth 100000 in
set_option maxHeartbeats 1000000 in
theorem same_any (l : List Msg) (n : Nat) (hn : n = l.length) (O1 O2 : Option Addr) (c1 c2 b1 b2 : Nat) (w : World) (h1 : Own w b1 60 7 O1 n c1 (mv l)) (h2 : Own w b2 60 7 O2 n c2 (mv l)) (hl : n ≤ 16777216) :
    Calls Try.prog 51 #[.slice O1 n c1, .slice O2 n c2] w fun e w' => e = .returned (.bool true) ∧ ∃ m, w' = w.drewN m := by
  have HN := Lib.hid hn
  clear hn
  go_enter Try.func51, Try.ntmps51
  go_wp2
  go_loopw [5] (fun i wr => ∃ k : Nat, k ≤ n ∧ i = .int .i64 k ∧ Hid (∃ m, wr = w.drewN m)) (fun i _ => n - (intOf i).toNat)
  case atStart => exact ⟨0, Nat.zero_le _, rfl, ⟨0, rfl⟩⟩
  case round =>
    obtain ⟨k, hk, rfl, hw⟩ := hrel
    by_cases hlt : k < n
    · have hlk : k < l.length := by rw [← HN.out]; exact hlt
      obtain ⟨m, hm⟩ : ∃ m, m = l[k] := ⟨_, rfl⟩
      obtain ⟨kd, nm, ve, fr, no, er, tx⟩ := m
      have hme : l[k]? = some ⟨kd, nm, ve, fr, no, er, tx⟩ := by rw [hm]; exact List.getElem?_eq_getElem hlk
      have g1 : Own wr b1 60 7 O1 n c1 (mv l) := by obtain ⟨m, e⟩ := hw.out; rw [e]; exact h1
      have g2 : Own wr b2 60 7 O2 n c2 (mv l) := by obtain ⟨m, e⟩ := hw.out; rw [e]; exact h2
      obtain ⟨ga, rfl, _, x0, x1, x2, x3, x4, x5, x6⟩ := g1.msg hme
      obtain ⟨gb, rfl, _, y0, y1, y2, y3, y4, y5, y6⟩ := g2.msg hme
      have hk1 : (0 : Int) ≤ (k : Int) := by omega
      have hk2 : (k : Int) < (n : Int) := by omega
      clear hm hme g1 g2 h1 h2
      go_wp2
      go_quiet (fail)
      go_wp2
      go_roundw
      case rel => exact ⟨k + 1, by omega, by go_num, by obtain ⟨m, e⟩ := hw.out; rw [e]; exact ⟨m + nq, by rw [World.drewN_drewN]⟩⟩
      case measure => simp [intOf]; omega
    · go_wp2
      go_ret
      exact ⟨rfl, hw.out⟩

set_option maxRecDepth 100000 in
set_option maxHeartbeats 2000000 in
theorem messages_any (l : List Msg) (n : Nat) (hn : n = l.length) (O1 O2 : Option Addr) (c1 c2 b1 b2 : Nat) (w : World) (h1 : Own w b1 60 7 O1 n c1 (mv l)) (h2 : Own w b2 57 7 O2 n c2 (mv l)) (hl : n ≤ 16777216) :
    Calls Try.prog 45 #[.slice O1 n c1, .slice O2 n c2] w fun e w' => e = .returned (.bool true) ∧ Below w.heap.size w w' := by
  have HN := Lib.hid hn
  clear hn
  go_enter Try.func45, Try.ntmps45
  go_wp2
  go_loopw [5] (fun i wr => ∃ k : Nat, k ≤ n ∧ i = .int .i64 k ∧ Hid (Below w.heap.size w wr)) (fun i _ => n - (intOf i).toNat)
  case atStart => exact ⟨0, Nat.zero_le _, rfl, Below.refl _ _⟩
  case round =>
    obtain ⟨k, hk, rfl, hw⟩ := hrel
    by_cases hlt : k < n
    · have hlk : k < l.length := by rw [← HN.out]; exact hlt
      obtain ⟨m, hm⟩ : ∃ m, m = l[k] := ⟨_, rfl⟩
      obtain ⟨kd, nm, ve, fr, no, er, tx⟩ := m
      have hme : l[k]? = some ⟨kd, nm, ve, fr, no, er, tx⟩ := by rw [hm]; exact List.getElem?_eq_getElem hlk
      have g1 := h1.below hw.out (Nat.le_refl _)
      have g2 := h2.below hw.out (Nat.le_refl _)
      obtain ⟨ga, rfl, la, x0, x1, x2, x3, x4, x5, x6⟩ := g1.msg hme
      obtain ⟨gb, rfl, lb, y0, y1, y2, y3, y4, y5, y6⟩ := g2.msg hme
      have hk1 : (0 : Int) ≤ (k : Int) := by omega
      have hk2 : (k : Int) < (n : Int) := by omega
      clear hm hme g1 g2 h1 h2
      go_wp2
      go_region_held3 (fun w' => w'.cell? ⟨ga, k * 7, none⟩ = some (.int .i64 kd) ∧ w'.cell? ⟨ga, k * 7 + 1, none⟩ = some (.string nm) ∧ w'.cell? ⟨ga, k * 7 + 2, none⟩ = some (.int .i64 ve) ∧ w'.cell? ⟨ga, k * 7 + 3, none⟩ = some (.int .i64 fr) ∧ w'.cell? ⟨ga, k * 7 + 4, none⟩ = some (.int .i64 no) ∧ w'.cell? ⟨ga, k * 7 + 5, none⟩ = some (.int .i64 er) ∧ w'.cell? ⟨ga, k * 7 + 6, none⟩ = some (.string tx) ∧
        w'.cell? ⟨gb, k * 7, none⟩ = some (.int .i64 kd) ∧ w'.cell? ⟨gb, k * 7 + 1, none⟩ = some (.string nm) ∧ w'.cell? ⟨gb, k * 7 + 2, none⟩ = some (.int .i64 ve) ∧ w'.cell? ⟨gb, k * 7 + 3, none⟩ = some (.int .i64 fr) ∧ w'.cell? ⟨gb, k * 7 + 4, none⟩ = some (.int .i64 no) ∧ w'.cell? ⟨gb, k * 7 + 5, none⟩ = some (.int .i64 er) ∧ w'.cell? ⟨gb, k * 7 + 6, none⟩ = some (.string tx))
        (first
          | exact ⟨x0, x1, x2, x3, x4, x5, x6, y0, y1, y2, y3, y4, y5, y6⟩
          | exact ⟨(b5.cell la).trans x0, (b5.cell la).trans x1, (b5.cell la).trans x2, (b5.cell la).trans x3, (b5.cell la).trans x4, (b5.cell la).trans x5, (b5.cell la).trans x6, (b5.cell lb).trans y0, (b5.cell lb).trans y1, (b5.cell lb).trans y2, (b5.cell lb).trans y3, (b5.cell lb).trans y4, (b5.cell lb).trans y5, (b5.cell lb).trans y6⟩)
        ((go_at_call 34; refine (own_any kd nm tx ve fr no er _).mono ?_; rintro e w5 ⟨rfl, b5⟩))
      have hb5 : Below wr.heap.size wr w5 := (Below.refl _ wr).drew.trans b5
      clear x0 x1 x2 x3 x4 x5 x6 y0 y1 y2 y3 y4 y5 y6
      go_wp2
      go_roundw
      case rel => exact ⟨k + 1, by omega, by go_num, hw.out.trans (hb5.mono hw.out.size)⟩
      case measure => simp [intOf]; omega
    · go_wp2
      go_ret
      exact ⟨rfl, hw.out⟩

end Go.Proofs.Ytbhjcfhpabnadaa
