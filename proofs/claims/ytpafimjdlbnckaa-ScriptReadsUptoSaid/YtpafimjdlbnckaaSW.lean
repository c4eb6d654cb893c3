/-
  The walk of ScriptWrites.
-/
import Derived.Test.YtpafimjdlbnckaaEncR
import Derived.Test.YtpafimjdlbnckaaStep
import Derived.Test.YtpafimjdlbnckaaGrp
import Derived.StillTailTactics
namespace Go.Proofs.Ytpafimjdlbnckaa
open Go.RowKit

theorem Try.el22 : Elem Try.prog 22 26 4 48 := Elem.of (z := .agg #[.int .i64 0, .int .i64 0, .int .i64 0, .slice none 0 0]) Try.underlying22 (by kernel_rfl) rfl (by decide)
theorem Try.el23 : Elem Try.prog 23 29 5 56 := Elem.of (z := .agg #[.int .i64 0, .int .i64 0, .int .i64 0, .slice none 0 0, .int .i64 0]) Try.underlying23 (by kernel_rfl) rfl (by decide)

/-- What both Encodes leave: the same bytes; an errno, or a bool. -/
def EncOut (w : World) (ys : List UInt8) (V : Value) (e : Ending) (w' : World) : Prop :=
  ∃ X cx, e = .returned (.tuple #[.slice X ys.length cx, V]) ∧ Own w' w.heap.size 5 1 X ys.length cx (bv ys) ∧ Below w.heap.size w w'

theorem enc_out (l : List St) (I R : Option Addr) (ci cr : Nat) (wr : World) (h4 : StAt wr wr.heap.size 4 I l) (h5 : StAt5 wr wr.heap.size R l (fun _ => 0)) (hl : l.length ≤ 140737488355328) (hn : (encL l).length ≤ 140737488355328) :
    ∃ ys E K, ((E = 0 ∧ K = true) ∨ (E = 2 ∧ K = false)) ∧ ys.length ≤ 140737488355328 ∧ Calls Try.prog 8 #[.slice I l.length ci] wr (EncOut wr ys (.int .i64 E)) ∧
      ∀ w1, Below wr.heap.size wr w1 → Calls Try.prog 9 #[.slice R l.length cr] w1 (EncOut w1 ys (.bool K)) := by
  by_cases hall : ∀ s ∈ l, okS s
  · refine ⟨encL l, 0, true, .inl ⟨rfl, rfl⟩, hn, (enc_any l I ci _ wr h4 (Nat.le_refl _) hl hn).mono ?_, fun w1 hb => (encR_any l R cr _ w1 _ (h5.below hb) hb.size hl hn).mono ?_⟩
    · rintro e w' ⟨hb, ⟨_, A, N, c, rfl, rfl, ho⟩ | ⟨⟨s, hs, hno⟩, _⟩⟩
      · exact ⟨A, c, rfl, ho, hb⟩
      · exact absurd (hall s hs) hno
    · rintro e w' ⟨hb, ⟨_, A, N, c, rfl, rfl, ho⟩ | ⟨⟨s, hs, hno⟩, _⟩⟩
      · exact ⟨A, c, rfl, ho, hb⟩
      · exact absurd (hall s hs) hno
  · refine ⟨[], 2, false, .inr ⟨rfl, rfl⟩, by simp, (enc_any l I ci _ wr h4 (Nat.le_refl _) hl hn).mono ?_, fun w1 hb => (encR_any l R cr _ w1 _ (h5.below hb) hb.size hl hn).mono ?_⟩
    · rintro e w' ⟨hb, ⟨ha, _⟩ | ⟨_, rfl⟩⟩
      · exact absurd ha hall
      · exact ⟨none, 0, rfl, Own.nil_ _ _ _ _, hb⟩
    · rintro e w' ⟨hb, ⟨ha, _⟩ | ⟨_, rfl⟩⟩
      · exact absurd ha hall
      · exact ⟨none, 0, rfl, Own.nil_ _ _ _ _, hb⟩

theorem oneStep (x y z : Int) (v : Option Addr) (n c : Nat) : ∀ u ∈ (#[Value.int .i64 x, .int .i64 y, .int .i64 z, .slice v n c] : Array Value).toList, u.oneCell' = true := by simp [Value.oneCell']

theorem oneStep5 (x y z q : Int) (v : Option Addr) (n c : Nat) : ∀ u ∈ (#[Value.int .i64 x, .int .i64 y, .int .i64 z, .slice v n c, .int .i64 q] : Array Value).toList, u.oneCell' = true := by simp [Value.oneCell']

set_option maxRecDepth 100000 in
set_option maxHeartbeats 2000000 in
theorem sw_any (l : List St) (A : Option Addr) (c B : Nat) (w : World) (hst : StAt w B 4 A l) (hB : B ≤ w.heap.size) (hl : l.length ≤ 1048576) (hd : ∀ s ∈ l, s.data.length ≤ 1048576) (hn : (encL l).length ≤ 140737488355328) :
    Calls Try.prog 3 #[.slice A l.length c] w fun e w' => e = .returned (.bool true) ∧ Below w.heap.size w w' := by
  have HD := Lib.hid hd
  clear hd
  go_enter Try.func3, Try.ntmps3
  go_wp2
  go_loopw [3, 4, 5] (fun vi vr i wr => ∃ (k : Nat) (I R : Option Addr) (ci cr : Nat), k ≤ l.length ∧ i = .int .i64 k ∧ vi = .slice I k ci ∧ vr = .slice R k cr ∧ InRel wr w.heap.size l k I ci ∧ RefRel w B wr w.heap.size l k R cr ∧ Below w.heap.size w wr) (fun _ _ i _ => l.length - (intOf i).toNat)
  case atStart => exact ⟨0, none, none, 0, 0, Nat.zero_le _, rfl, rfl, rfl, ⟨[], Own.nil_ _ _ _ _, by omega⟩, ⟨[], Own.nil_ _ _ _ _, by omega⟩, Below.refl _ _⟩
  case round =>
    obtain ⟨k, I, R, ci, cr, hk, rfl, rfl, rfl, hin, href, hbel⟩ := hrel
    by_cases hlt : k < l.length
    · obtain ⟨b, o, D, d, rfl, hbB, h0, h1, h2, h3, hr⟩ := hst k hlt
      replace h0 := (hbel.cell (p := ⟨b, o + k * 4, none⟩) (by exact Nat.lt_of_lt_of_le hbB hB)).trans h0
      replace h1 := (hbel.cell (p := ⟨b, o + k * 4 + 1, none⟩) (by exact Nat.lt_of_lt_of_le hbB hB)).trans h1
      replace h2 := (hbel.cell (p := ⟨b, o + k * 4 + 2, none⟩) (by exact Nat.lt_of_lt_of_le hbB hB)).trans h2
      replace h3 := (hbel.cell (p := ⟨b, o + k * 4 + 3, none⟩) (by exact Nat.lt_of_lt_of_le hbB hB)).trans h3
      have hbw : b < wr.heap.size := Nat.lt_of_lt_of_le hbB (Nat.le_trans hB hbel.size)
      have hdl := HD.out l[k] (List.getElem_mem hlt)
      obtain ⟨s, hs⟩ : ∃ s, s = l[k] := ⟨_, rfl⟩
      rw [← hs] at h0 h1 h2 h3 hr hdl
      have HS := Lib.hid hs
      clear hs hst
      have hr1 : Rd (wr.alloc (.cells #[.int .i64 s.op, .int .i64 s.a, .int .i64 s.b, .slice D s.data.length d] 26)) B D (bv s.data) := (hr.below (hbel.mono hB)).alloc (Nat.le_trans hB hbel.size) _
      obtain ⟨zi, hoi, hji⟩ := hin
      obtain ⟨zr, hor, hjr⟩ := href
      have HJI := Lib.hid hji
      have HJR := Lib.hid hjr
      clear hji hjr
      go_wp2_with (first
        | (go_at_call 7; refine (lent_any s.data _ _ B _ hr1 (by have := hbel.size; simp; omega) (by omega)).mono ?_; rintro e w1 ⟨g, cap, rfl, hcap, hcp, hb1⟩; have e0 := (hb1.cell (p := ⟨wr.heap.size, 0, none⟩) (by simp)).trans (show _ = some (.int .i64 s.op) by simp); have e1 := (hb1.cell (p := ⟨wr.heap.size, 1, none⟩) (by simp)).trans (show _ = some (.int .i64 s.a) by simp); have e2 := (hb1.cell (p := ⟨wr.heap.size, 2, none⟩) (by simp)).trans (show _ = some (.int .i64 s.b) by simp); have e3 := (hb1.cell (p := ⟨wr.heap.size, 3, none⟩) (by simp)).trans (show _ = some (.slice D s.data.length d) by simp); have f3 := (hb1.frozen (p := ⟨wr.heap.size, 3, none⟩) (by simp)).trans (show _ = false by simp); have z1 : wr.heap.size + 1 ≤ w1.heap.size := (by have := hb1.size; simp at this; omega); have hbk := box_below (p := ⟨wr.heap.size, 3, none⟩) (.slice (some ⟨g, 0, none⟩) s.data.length cap) hb1 (Nat.le_refl _))
        | (at_builtin; go_loud (refine wpList_app_new rfl (.tmp 29) (.tmp 31) 22 rfl w.heap.size 26 4 48 Try.el22 I k ci zi rfl (hoi.below hbk (Nat.le_refl _)) _ w1.heap.size 1 1 (by simp) rfl rfl (oneStep _ _ _ _ _ _) (k + 1) _ rfl rfl (by omega) (by unfold maxLen; omega) (Nat.le_trans hbel.size hbk.size) ?_); intro I2 ci2 w2 hoi2 hg2 hat2; have g0 := grown_cell hg2 ((hbk.cell (p := ⟨b, o + k * 4, none⟩) hbw).trans h0) (hoi.blk_low (Nat.lt_of_lt_of_le hbB hB)); have g1 := grown_cell hg2 ((hbk.cell (p := ⟨b, o + k * 4 + 1, none⟩) hbw).trans h1) (hoi.blk_low (Nat.lt_of_lt_of_le hbB hB)); have g2 := grown_cell hg2 ((hbk.cell (p := ⟨b, o + k * 4 + 2, none⟩) hbw).trans h2) (hoi.blk_low (Nat.lt_of_lt_of_le hbB hB)); have g3 := grown_cell hg2 ((hbk.cell (p := ⟨b, o + k * 4 + 3, none⟩) hbw).trans h3) (hoi.blk_low (Nat.lt_of_lt_of_le hbB hB)))
        | fail)
      clear h0 h1 h2 h3 e0 e1 e2 e3 f3
      have hs0 : (0 : Int) ≤ (k : Int) := Int.natCast_nonneg _
      have hs1 : (k : Int) < (l.length : Int) := by omega
      have hsz2 : w.heap.size ≤ w2.heap.size := Nat.le_trans hbel.size (Nat.le_trans hbk.size hg2.size)
      have hor2 := (hor.below hbk (Nat.le_refl _)).other (hoi.below hbk (Nat.le_refl _)) (by decide) hg2
      go_region_held3 (fun w' => w'.cell? ⟨b, o + k * 4, none⟩ = some (.int .i64 s.op) ∧ w'.cell? ⟨b, o + k * 4 + 1, none⟩ = some (.int .i64 s.a) ∧ w'.cell? ⟨b, o + k * 4 + 2, none⟩ = some (.int .i64 s.b) ∧ w'.cell? ⟨b, o + k * 4 + 3, none⟩ = some (.slice D s.data.length d))
        (first
          | go_keep
          | (go_split_ands
             refine ⟨?_, ?_, ?_, ?_⟩
             · exact grown_cell hg3 (by simp [*]) (hor2.blk_low (Nat.lt_of_lt_of_le hbB hB))
             · exact grown_cell hg3 (by simp [*]) (hor2.blk_low (Nat.lt_of_lt_of_le hbB hB))
             · exact grown_cell hg3 (by simp [*]) (hor2.blk_low (Nat.lt_of_lt_of_le hbB hB))
             · exact grown_cell hg3 (by simp [*]) (hor2.blk_low (Nat.lt_of_lt_of_le hbB hB))))
        ((refine step_app (by rfl) _ _ _ (by rfl) w.heap.size 29 5 56 Try.el23 R k cr zr (by rfl) (hor2.alloc _) (w2.heap.size + 1) (some ⟨w2.heap.size, 0, none⟩) 1 1 _ (by rfl) (new_rd w2 #[.int .i64 s.op, .int .i64 s.a, .int .i64 s.b, .slice D s.data.length d, .int .i64 0] 29 _ (Nat.lt_succ_self _)) rfl (oneStep5 _ _ _ _ _ _ _) (k + 1) _ rfl rfl (by omega) (by unfold maxLen; omega) (by simp; omega) ?_; intro R3 cr3 w3 hor3 hg3 hat3))
      have hcp2 : Copy (w1.setCell ⟨wr.heap.size, 3, none⟩ (.slice (some ⟨g, 0, none⟩) s.data.length cap)) w.heap.size g cap s.data := ⟨hcap, (hcp.setCell_low (p := ⟨wr.heap.size, 3, none⟩) (by simp) _).base_le (by simp; exact Nat.le_succ_of_le hbel.size)⟩
      have R1 := in_step hlt HS.out hoi HJI.out hbk hcp2 hg2 hoi2
      have R2 : InRel w3 w.heap.size l (k + 1) I2 ci2 := InRel.ref_grown (wr := (w2.alloc (.cells #[.int .i64 s.op, .int .i64 s.a, .int .i64 s.b, .slice D s.data.length d, .int .i64 0] 29)).drew) (R1.below ((Below.refl _ _).alloc (Nat.le_refl _) _).drew) (hor2.alloc _) hg3
      have R3' := ref_step hlt HS.out hor HJR.out hr hor3
      have b3 : Below w.heap.size w w3 := below_own (w := (w2.alloc (.cells #[.int .i64 s.op, .int .i64 s.a, .int .i64 s.b, .slice D s.data.length d, .int .i64 0] 29)).drew) ((below_own (hbel.trans (hbk.mono hbel.size)) hg2 (hoi.below hbk (Nat.le_refl _)) (Nat.le_trans hbel.size hbk.size)).alloc hsz2 _).drew hg3 (hor2.alloc _) (by simp; omega)
      clear hcp2 hg2 hg3 hoi2 hor3 hcp hb1 hbk hor2 hoi hor hr hr1 g0 g1 g2 g3 hat2 hat3
      go_wp2
      go_roundw
      case rel => exact ⟨k + 1, I2, R3, ci2, cr3, by omega, by go_num, rfl, rfl, R2, R3', b3⟩
      case measure => simp [intOf]; omega
    · obtain rfl : k = l.length := by omega
      obtain ⟨ys, E, K, hEK, hys, c8, c9⟩ := enc_out l I R ci cr wr hin.st (href.st hbel hB) (by omega) hn
      have C8 := Lib.hid c8
      have C9 := Lib.hid c9
      have HEK := Lib.hid hEK
      clear c8 c9 hEK
      go_wp2_with (first
        | (go_at_call 8; refine C8.out.mono ?_; rintro e w1 ⟨X, cx, rfl, hx, hb1⟩)
        | (go_at_call 9; refine (C9.out w1 hb1).mono ?_; rintro e w2 ⟨Y, cy, rfl, hy, hb2⟩)
        | fail)
      have hb12 : Below wr.heap.size wr w2 := hb1.trans (hb2.mono hb1.size)
      have hinz := hin.below hb12
      have hrefz := href.below hb12
      have hbelz := hbel.trans (hb12.mono hbel.size)
      have hxz := (hx.below hb2 (Nat.le_refl _)).base_le hbel.size
      have hyz := hy.base_le (Nat.le_trans hbel.size hb1.size)
      clear hin href hbel hb1 hb2 hx hy hb12 C8 C9
      go_loopw [11] (fun i wq => ∃ k : Nat, k ≤ l.length ∧ i = .int .i64 k ∧ Below w2.heap.size w2 wq) (fun i _ => l.length - (intOf i).toNat)
      case atStart => exact ⟨0, Nat.zero_le _, rfl, Below.refl _ _⟩
      case round =>
        obtain ⟨k, hk, rfl, hbq⟩ := hrel
        by_cases hlt : k < l.length
        · have hbw : Below w.heap.size w wr := hbelz.trans (hbq.mono hbelz.size)
          have hinq := hinz.below hbq
          have hrefq := hrefz.below hbq
          clear hinz hrefz hxz hyz HEK
          obtain ⟨zi, hoi, hji⟩ := hinq
          obtain ⟨zr, hor, hjr⟩ := hrefq
          obtain ⟨g, cap, hgr, hcp⟩ := hji k hlt hlt
          obtain ⟨D', d', hgr', hrd'⟩ := hjr k hlt hlt
          obtain ⟨G, rfl, hG1, hG2, _⟩ := hoi.form_pos (by omega)
          obtain ⟨H, rfl, hH1, hH2, _⟩ := hor.form_pos (by omega)
          obtain ⟨b, o, D, d, rfl, hbB, _, _, _, h3, hr⟩ := hst k hlt
          replace h3 := (hbw.cell (p := ⟨b, o + k * 4 + 3, none⟩) (by exact Nat.lt_of_lt_of_le hbB hB)).trans h3
          have hdl := HD.out l[k] (List.getElem_mem hlt)
          obtain ⟨s, hs⟩ : ∃ s, s = l[k] := ⟨_, rfl⟩
          rw [← hs] at hgr hgr' hcp hrd' h3 hr hdl
          have i0 := hoi.grp hgr 0 _ rfl
          have i1 := hoi.grp hgr 1 _ rfl
          have i2 := hoi.grp hgr 2 _ rfl
          have i3 := hoi.grp hgr 3 _ rfl
          have r0 := hor.grp hgr' 0 _ rfl
          have r1 := hor.grp hgr' 1 _ rfl
          have r2 := hor.grp hgr' 2 _ rfl
          have r3 := hor.grp hgr' 3 _ rfl
          have r4 := hor.grp hgr' 4 _ rfl
          simp only [Nat.add_zero] at i0 r0
          have hr1 : Rd wr B D (bv s.data) := hr.below (hbw.mono hB)
          have hr2 : Rd wr B D' (bv s.data) := hrd'.below (hbw.mono hB)
          have hBq : B ≤ wr.heap.size := Nat.le_trans hB hbw.size
          have hbq' : b < wr.heap.size := Nat.lt_of_lt_of_le hbB hBq
          have hs0 : (0 : Int) ≤ (k : Int) := Int.natCast_nonneg _
          have hs1 : (k : Int) < (l.length : Int) := by omega
          have hdd : decide (s.data = s.data) = true := by simp
          have hcap := hcp.1
          clear hs hst hji hjr hgr hgr' hr hrd'
          go_wp2_with fail
          go_region_held3 (fun w' => w'.cell? ⟨G, k * 4, none⟩ = some (.int .i64 s.op) ∧ w'.cell? ⟨G, k * 4 + 1, none⟩ = some (.int .i64 s.a) ∧ w'.cell? ⟨G, k * 4 + 2, none⟩ = some (.int .i64 s.b) ∧ w'.cell? ⟨G, k * 4 + 3, none⟩ = some (.slice (some ⟨g, 0, none⟩) s.data.length cap) ∧
              w'.cell? ⟨H, k * 5, none⟩ = some (.int .i64 s.op) ∧ w'.cell? ⟨H, k * 5 + 1, none⟩ = some (.int .i64 s.a) ∧ w'.cell? ⟨H, k * 5 + 2, none⟩ = some (.int .i64 s.b) ∧ w'.cell? ⟨H, k * 5 + 3, none⟩ = some (.slice D' s.data.length d') ∧ w'.cell? ⟨H, k * 5 + 4, none⟩ = some (.int .i64 0) ∧
              w'.cell? ⟨b, o + k * 4 + 3, none⟩ = some (.slice D s.data.length d))
            (first
              | go_keep
              | (go_split_ands
                 refine ⟨?_, ?_, ?_, ?_, ?_, ?_, ?_, ?_, ?_, ?_⟩
                 all_goals ((rw [hb3.cell (by first | exact hG2 | exact hH2 | exact hbq')]); simp [*])))
            (first
              | (go_at_call 10; refine (step_eq s.op s.a s.b 0 s.data (some ⟨g, 0, none⟩) D' cap d' wr.heap.size B wr.drew hcp.rd hr2 (Nat.le_refl _) hBq (by omega)).mono ?_; rintro e w3 ⟨rfl, hb3⟩; have hb4 : Below wr.heap.size wr w3 := (Below.refl wr.heap.size wr).drew.trans hb3)
              | (go_at_call 11; refine (kept_any s.data s.data D g cap d w.heap.size B _ (hcp.2.below hb4 (Nat.le_refl _)) (hr1.below (hb4.mono hBq)) (by omega)).mono ?_; rintro e w4 ⟨rfl, k4, rfl⟩))
          go_wp2
          go_roundw
          case rel => exact ⟨k + 1, by omega, by go_num, below_drewN (hbq.trans (hb4.mono hbq.size)) _⟩
          case measure => simp [intOf]; omega
        · obtain rfl : k = l.length := by omega
          rcases HEK.out with ⟨rfl, rfl⟩ | ⟨rfl, rfl⟩
          all_goals
            go_wp2_with (first
              | (go_at_call 12; refine (num_any _ _).mono ?_; rintro e w1 ⟨rfl, rfl⟩)
              | (go_at_call 13; go_loud (refine (same_any ys ys _ _ _ _ _ _ _ (hxz.below hbq (Nat.le_refl _)).rd (hyz.below hbq (Nat.le_refl _)).rd (by omega)).mono ?_); rintro e w1 ⟨rfl, kk, rfl⟩)
              | fail)
            go_ret
            exact ⟨by simp, below_drewN (hbelz.trans (hbq.mono hbelz.size)) _⟩

end Go.Proofs.Ytpafimjdlbnckaa
