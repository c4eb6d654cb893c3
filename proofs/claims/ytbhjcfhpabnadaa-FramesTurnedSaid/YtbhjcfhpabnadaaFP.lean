/-
  The walk of FramesPieces.
-/
import Derived.Test.YtbhjcfhpabnadaaFedW
namespace Go.Proofs.Ytbhjcfhpabnadaa
open Go.RowKit

/-- What fed leaves of bytes that say these messages and leave this reader. -/
def FedEnd (w : World) (L : List Msg) (R : RSt) (q : Nat) (e : Ending) (w' : World) : Prop :=
  ∃ O co Ag, e = .returned (.tuple #[.slice O q co, .pointer (some ⟨w.heap.size, 0, none⟩)]) ∧ Own w' w.heap.size 60 7 O q co (mv L) ∧ Rdr w' 115 w.heap.size w.heap.size Ag R ∧ Below w.heap.size w w' ∧ w.heap.size < w'.heap.size

theorem fed_any (b : List UInt8) (L : List Msg) (R : RSt) (q : Nat) (hL : (parse b).1 = L) (hR : rsOf b = R) (hq : q = L.length) (n : Nat) (hn : n = b.length) (A : Option Addr) (c B : Nat) (w : World) (hx : Rd w B A (bv b)) (hB : B ≤ w.heap.size) (hc : n ≤ c) (hl : n ≤ 8388608)
    (zs : List Int) (ns : Nat) (hns : ns = zs.length) (Z : Option Addr) (cz Bz : Nat) (hz : Rd w Bz Z (zs.map (Value.int .i64))) (hBz : Bz ≤ w.heap.size) (hnm : ns ≤ 9223372036854775807) :
    Calls Try.prog 50 #[.slice A n c, .slice Z ns cz] w (FedEnd w L R q) := by
  have h : Calls Try.prog 50 #[.slice A n c, .slice Z ns cz] w (FedOut w b) := by
    rcases Nat.eq_zero_or_pos ns with h0 | h0
    · subst h0
      exact fed_none b n hn A c B w hx hB hc hl Z cz
    · exact fed_some b n hn A c B w hx hB hc hl zs ns hns h0 Z cz Bz hz hBz hnm
  refine h.mono ?_
  rintro e w' ⟨q', O, co, Ag, he, h1, h2, h3, h4⟩
  rw [List.take_length] at h1 h2 h3
  rw [hL] at h1 h2
  rw [hR] at h3
  obtain rfl : q' = q := h1.trans hq.symm
  exact ⟨O, co, Ag, he, h2, h3, h4, h3.lt⟩

set_option maxRecDepth 100000 in
set_option maxHeartbeats 2000000 in
theorem framesPieces_any (b : List UInt8) (A : Option Addr) (c : Nat) (w : World) (hx : Rd w w.heap.size A (bv b)) (hc : b.length ≤ c) (hl : b.length ≤ 9223372036854775807)
    (zs : List Int) (Z : Option Addr) (cz : Nat) (hz : Rd w w.heap.size Z (zs.map (Value.int .i64))) (hzl : zs.length ≤ 9223372036854775807)
    (ys : List Int) (Y : Option Addr) (cy : Nat) (hy : Rd w w.heap.size Y (ys.map (Value.int .i64))) (hyl : ys.length ≤ 9223372036854775807) :
    Calls Try.prog 15 #[.slice A b.length c, .slice Z zs.length cz, .slice Y ys.length cy] w fun e w' => e = .returned (.bool true) ∧ Below w.heap.size w w' := by
  obtain ⟨n, hn⟩ : ∃ n, n = b.length := ⟨_, rfl⟩
  obtain ⟨ns, hns⟩ : ∃ n, n = zs.length := ⟨_, rfl⟩
  obtain ⟨ny, hny⟩ : ∃ n, n = ys.length := ⟨_, rfl⟩
  obtain ⟨L, hL⟩ : ∃ L, (parse b).1 = L := ⟨_, rfl⟩
  obtain ⟨R, hR⟩ : ∃ R, rsOf b = R := ⟨_, rfl⟩
  obtain ⟨q, hq⟩ : ∃ q, q = L.length := ⟨_, rfl⟩
  have hqn : 8 * q ≤ n := by
    have := (parse_len b).2.1
    rw [hL, ← hq, ← hn] at this
    omega
  rw [← hn] at hc hl
  rw [← hns] at hzl
  rw [← hny] at hyl
  rw [← hn, ← hns, ← hny]
  by_cases hbig : 20000 < n
  · have hbI : (20000 : Int) < (n : Int) := by omega
    clear hn hns hny hL hR hq hx hz hy
    go_enter Try.func15, Try.ntmps15
    go_wp2_with (first
      | (go_at_call 46; refine (awake46_any w).mono ?_; rintro e w1 ⟨rfl, b1⟩)
      | fail)
    go_ret
    exact ⟨rfl, b1⟩
  · have hbI : ¬ (20000 : Int) < (n : Int) := by omega
    have hR2 := rsOf_ok b
    rw [hR] at hR2
    have HF1 := Lib.hid (fun (W : World) (hb : Below w.heap.size w W) => fed_any b L R q hL hR hq n hn A c w.heap.size W (hx.below hb) hb.size hc (by omega) zs ns hns Z cz w.heap.size (hz.below hb) hb.size hzl)
    have HF2 := Lib.hid (fun (W : World) (hb : Below w.heap.size w W) => fed_any b L R q hL hR hq n hn A c w.heap.size W (hx.below hb) hb.size hc (by omega) ys ny hny Y cy w.heap.size (hy.below hb) hb.size hyl)
    have HF3 := Lib.hid (fun (W : World) (hb : Below w.heap.size w W) => fed_any b L R q hL hR hq n hn A c w.heap.size W (hx.below hb) hb.size hc (by omega) [] 0 rfl none 0 w.heap.size (Rd.nil_ _ _ _) hb.size (by omega))
    have HS := Lib.hid (fun (W : World) (B1 B2 : Nat) (O1 O2 : Option Addr) (c1 c2 : Nat) (h1 : Own W B1 60 7 O1 q c1 (mv L)) (h2 : Own W B2 60 7 O2 q c2 (mv L)) => same_any L q hq O1 O2 c1 c2 B1 B2 W h1 h2 (by omega))
    have tok1 : True := trivial
    have tok2 : True := trivial
    have tok3 : True := trivial
    clear hn hns hny hL hR hq hx hz hy
    go_enter Try.func15, Try.ntmps15
    go_wp2_with (first
      | (go_at_call 46; refine (awake46_any w).mono ?_; rintro e w1 ⟨rfl, b1⟩)
      | (go_at_call 50; have _t := tok1; refine (HF1.out w1 b1).mono ?_; rintro e w2 ⟨O2, c2, A2, rfl, o2, r2, b2, s2⟩; have d2 := b1.trans (b2.mono b1.size); clear tok1 _t)
      | (go_at_call 50; have _t := tok2; refine (HF2.out w2 d2).mono ?_; rintro e w3 ⟨O3, c3, A3, rfl, o3, r3, b3, s3⟩; have d3 := d2.trans (b3.mono d2.size); clear tok2 _t)
      | (go_at_call 50; refine (HF3.out w3 d3).mono ?_; rintro e w4 ⟨O4, c4, A4, rfl, o4, r4, b4, s4⟩; have d4 := d3.trans (b4.mono d3.size); have p2 := (o2.below b3 (Nat.le_refl _)).below b4 (Nat.le_refl _); have p3 := o3.below b4 (Nat.le_refl _); have t2 := (r2.below b3).below b4; have t3 := r3.below b4; have WA := Lib.hid (fun (g : Nat) (m : Nat) (hg : g = w1.heap.size ∨ g = w2.heap.size ∨ g = w3.heap.size) => (show Calls Try.prog 41 #[.pointer (some ⟨g, 0, none⟩)] (w4.drewN m) fun e w' => e = .returned (.int .i64 R.waits.length) ∧ w4.drewN m = w' from (by rcases hg with rfl | rfl | rfl; exact waits_any (t2.below (below_drewN (Below.refl _ _) m)); exact waits_any (t3.below (below_drewN (Below.refl _ _) m)); exact waits_any (r4.below (below_drewN (Below.refl _ _) m))))); have WD := Lib.hid (fun (g : Nat) (m : Nat) (hg : g = w1.heap.size ∨ g = w2.heap.size ∨ g = w3.heap.size) => (show Calls Try.prog 42 #[.pointer (some ⟨g, 0, none⟩)] (w4.drewN m) fun e w' => e = .returned (.bool R.dead) ∧ w4.drewN m = w' from (by rcases hg with rfl | rfl | rfl; exact dead_any (t2.below (below_drewN (Below.refl _ _) m)); exact dead_any (t3.below (below_drewN (Below.refl _ _) m)); exact dead_any (r4.below (below_drewN (Below.refl _ _) m))))); clear t2 t3 r4 r2 r3 b2 b3 b4)
      | (go_at_call 51; have _t := tok3; refine (HS.out w4 _ _ O2 O3 c2 c3 p2 p3).mono ?_; rintro e w5 ⟨rfl, m5, rfl⟩; clear tok3 _t)
      | (go_at_call 51; refine (HS.out (w4.drewN m5) _ _ O2 O4 c2 c4 (p2.drewN m5) (o4.drewN m5)).mono ?_; rintro e w6 ⟨rfl, m6, rfl⟩; rw [World.drewN_drewN])
      | (go_at_call 41; refine (WA.out _ _ (by first | exact .inl rfl | exact .inr (.inl rfl) | exact .inr (.inr rfl))).mono ?_; rintro e w7 ⟨rfl, rfl⟩)
      | (go_at_call 42; refine (WD.out _ _ (by first | exact .inl rfl | exact .inr (.inl rfl) | exact .inr (.inr rfl))).mono ?_; rintro e w7 ⟨rfl, rfl⟩)
      | fail)
    go_ret
    exact ⟨by simp, below_drewN d4 _⟩

end Go.Proofs.Ytbhjcfhpabnadaa
