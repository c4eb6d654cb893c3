/-
  The walk of FramesBack. (Printed by wip/mkfb.py.)
-/
import Derived.Test.YtbhjcfhpabnadaaPlW
import Derived.Test.YtbhjcfhpabnadaaCut
import Derived.Test.YtbhjcfhpabnadaaWide
import Derived.StillTailTactics
namespace Go.Proofs.Ytbhjcfhpabnadaa
open Go.RowKit

theorem take8 (x0 x1 x2 x3 x4 x5 x6 x7 : UInt8) (r : List UInt8) (n : Nat) : (x0 :: x1 :: x2 :: x3 :: x4 :: x5 :: x6 :: x7 :: r).take (8 + n) = x0 :: x1 :: x2 :: x3 :: x4 :: x5 :: x6 :: x7 :: r.take n := by
  rw [Nat.add_comm]
  rfl
theorem nextS_head {b p : List UInt8} (h : nextS b = some p) : b.take (8 + p.length) = frame p := by
  by_cases h8 : b.length < 8
  · rw [nextS_short h8] at h
    cases h
  · obtain ⟨x0, x1, x2, x3, x4, x5, x6, x7, r, rfl⟩ := long_form (b := b) (by omega)
    clear h8
    simp only [nextS] at h
    obtain ⟨n, hn⟩ : ∃ n, n = num4 x0 x1 x2 x3 := ⟨_, rfl⟩
    rw [← hn] at h
    obtain ⟨hc, h⟩ := ite_some h
    have hl : p.length = n := by rw [← h, List.length_take]; omega
    have e := frame_head (x4 := x4) (x5 := x5) (x6 := x6) (x7 := x7) (p := p) (hn.symm.trans hl.symm)
    rw [h] at hc
    rw [decide_eq_true hc.2.2, str_list, str_list, beq_iff_eq] at e
    rw [e, take8, hl, h]
theorem dec_cases (b : List UInt8) : (∃ E : Int, decT b = (none, 0, E) ∧ (E == 0) = false) ∨
    (∃ m p, decT b = (some m, ((8 + p.length : Nat) : Int), 0) ∧ payM m = some p ∧ plainM m = m ∧ 8 + p.length ≤ b.length ∧ b.take (8 + p.length) = frame p ∧ p.length ≤ 131072) :=
  decT_cases b (fun t => (∃ E : Int, t = (none, 0, E) ∧ (E == 0) = false) ∨ (∃ m p, t = (some m, ((8 + p.length : Nat) : Int), 0) ∧ payM m = some p ∧ plainM m = m ∧ 8 + p.length ≤ b.length ∧ b.take (8 + p.length) = frame p ∧ p.length ≤ 131072))
    (fun _ => .inl ⟨_, rfl, rfl⟩) (fun _ _ => .inl ⟨_, rfl, rfl⟩) (fun _ _ _ => .inl ⟨_, rfl, rfl⟩) (fun _ _ _ _ => .inl ⟨_, rfl, rfl⟩) (fun _ _ _ _ _ _ => .inl ⟨_, rfl, rfl⟩)
    (fun _ _ h3 p hx m hm => .inr ⟨m, p, rfl, pay_of_msgS hm, plain_of_msgS hm, by
      have := nextS_len hx
      rw [List.length_take] at this
      omega, by
      have h2 := nextS_len hx
      rw [List.length_take] at h2
      have h := nextS_head hx
      rw [List.take_take, Nat.min_eq_left (by omega)] at h
      exact h, (nextS_len hx).1⟩)

theorem rd_j {w X : World} {base n c j : Nat} {A : Option Addr} {F : List UInt8} (h : Own w base 5 1 A n c (bv F)) (hb : Below w.heap.size w X) : Rd X X.heap.size A (bv (F.take j)) := by
  have := (h.below hb (Nat.le_refl _)).rd.take j
  simpa [bv, List.map_take] using this
theorem own_m (m : Msg) (w : World) : Calls Try.prog 34 #[msgV m] w fun e w' => e = .returned (msgV m) ∧ Below w.heap.size w w' := own_any m.kind m.name m.text m.version m.frm m.nonce m.err w
theorem enc_m {m : Msg} {o : Option (List UInt8)} (h : payM m = o) (w : World) : Calls Try.prog 33 #[msgV m] w (PairOut w (encF o) (encE o)) := enc33 h w
theorem lent36_o (xs : List UInt8) (n : Nat) (hn : n = xs.length) (A : Option Addr) (c B : Nat) (w : World) (hx : Rd w B A (bv xs)) (hl : n ≤ 140737488351232) :
    Calls Try.prog 36 #[.slice A n c] w (LentO w xs n) := by
  refine (lent36_at xs n hn A c B w hx (by omega)).mono ?_
  rintro e w' ⟨g, cap, he, hc, hb⟩
  exact ⟨g, cap, by rw [he, hn], hc.own hn, by have := hc.1; omega, hb⟩

set_option maxRecDepth 100000 in
set_option maxHeartbeats 2000000 in
theorem fb_some_good (kd : Int) (nm : ByteArray) (ve fr no er : Int) (tx : ByteArray) (m : Msg) (hme : m = ⟨kd, nm, ve, fr, no, er, tx⟩) (p : List UInt8) (hp : payM m = some p) (tail : List UInt8) (A : Option Addr) (k : Nat) (cut : Int) (w : World) (hx : Rd w w.heap.size A (bv tail)) (hl : tail.length ≤ 140737488351232) (n2 : Nat) (m2 : Msg) (F2 : List UInt8) (hT : decT tail = (some m2, (n2 : Int), 0)) (hE2 : ∀ W, Calls Try.prog 33 #[msgV m2] W (PairOut W F2 0)) (hpm : plainM m2 = m2) (hn2 : F2.length = n2) (hle : n2 ≤ tail.length) (htk : tail.take n2 = F2) (hk : tail.length ≤ k) :
    Calls Try.prog 13 #[.agg #[.int .i64 kd, .string nm, .int .i64 ve, .int .i64 fr, .int .i64 no, .int .i64 er, .string tx], .slice A tail.length k, .int .i64 cut] w fun e w' => e = .returned (.bool true) ∧ Below w.heap.size w w' := by
  have HT := Lib.hid (dec37 hT tail.length rfl)
  have HE2 := Lib.hid hE2
  have HL2 := Lib.hid hn2
  have HPM := Lib.hid (fun W => plain48_any m2 W)
  rw [hpm] at HPM
  have hleI : (n2 : Int) ≤ (tail.length : Int) := by omega
  have hnk : (n2 : Int) ≤ (k : Int) := by omega
  have hn0 : (0 : Int) ≤ (n2 : Int) := Int.natCast_nonneg _
  have HTK := Lib.hid htk
  clear hT hE2 hpm hn2 htk
  have hpl : p.length ≤ 131072 := paySpec_len hp
  have hm := msgS_pay hp
  have D1 := decT_frame (r := tail) hpl hm
  have DC := fun j hj => decT_cut hpl (j := j) hj
  have HE := fun W => enc_m hp W
  obtain ⟨q, hq⟩ : ∃ q, q = plainM m := ⟨_, rfl⟩
  have HPL := Lib.hid (fun W => plain48_any m W)
  rw [← hq] at D1 HPL
  have hfl := frame_len p
  simp only [show encF (some p) = frame p from rfl, show encE (some p) = 0 from rfl] at HE
  obtain ⟨F, hF⟩ : ∃ F, F = frame p := ⟨_, rfl⟩
  rw [← hF] at D1 HE hfl
  simp only [← hF] at DC
  obtain ⟨N, hN⟩ : ∃ N, N = F.length := ⟨_, rfl⟩
  rw [← hfl, ← hN] at D1
  have hN0 : 0 < N := by omega
  have hNb : N ≤ 131080 := by omega
  have hDC : ∀ j, j < N → decT (F.take j) = (none, 0, 10) := fun j hj => DC j (by omega)
  have HD := Lib.hid (dec37 D1 (N + tail.length) (by rw [List.length_append, hN]))
  have HC := Lib.hid (fun j hj => dec37 (hDC j hj) j (by rw [List.length_take]; omega))
  subst hme
  unfold msgV at HE
  have HEE := Lib.hid HE
  have HN := Lib.hid hN
  have HO := Lib.hid (fun W => own_any kd nm tx ve fr no er W)
  have HX := Lib.hid hx
  clear D1 DC HE hfl hF hDC hm hp hq hN
  have tok1 : True := trivial
  have tok2 : True := trivial
  have tok3 : True := trivial
  have tok4 : True := trivial
  go_enter Try.func13, Try.ntmps13
  go_wp2_with (first
    | (go_at_call 46; refine (awake46_any _).mono ?_; rintro e w1 ⟨rfl, b1⟩; obtain ⟨hz1, d1, s1⟩ := box1_at (k := 0) b1; have hx1 := hx.below d1; have z0 : w1.cell? ⟨w.heap.size, 0, none⟩ = some (.int .i64 kd) := cellAt hz1 (j := 0) rfl; have z1 : w1.cell? ⟨w.heap.size, 1, none⟩ = some (.string nm) := cellAt hz1 (j := 1) rfl; have z2 : w1.cell? ⟨w.heap.size, 2, none⟩ = some (.int .i64 ve) := cellAt hz1 (j := 2) rfl; have z3 : w1.cell? ⟨w.heap.size, 3, none⟩ = some (.int .i64 fr) := cellAt hz1 (j := 3) rfl; have z4 : w1.cell? ⟨w.heap.size, 4, none⟩ = some (.int .i64 no) := cellAt hz1 (j := 4) rfl; have z5 : w1.cell? ⟨w.heap.size, 5, none⟩ = some (.int .i64 er) := cellAt hz1 (j := 5) rfl; have z6 : w1.cell? ⟨w.heap.size, 6, none⟩ = some (.string tx) := cellAt hz1 (j := 6) rfl; have s1' : w.heap.size < w1.heap.size := s1)
    | (go_at_call 34; have _t := tok1; refine (HO.out _).mono ?_; rintro e w2 ⟨rfl, b2⟩; clear tok1 _t; have d2 := d1.trans (b2.mono d1.size); have hz2 := (b2.block w.heap.size (by omega)).trans hz1)
    | (go_at_call 33; refine (HEE.out _).mono ?_; rintro e w3 ⟨A3, k3, rfl, h3, b3⟩; rw [← HN.out] at h3 ⊢; have d3 := d2.trans (b3.mono d2.size); have hz3 := (b3.block w.heap.size (by have := b2.size; omega)).trans hz2; obtain ⟨g3, rfl, hge3, hlt3, hle3⟩ := h3.form_pos (by omega))
    | (go_at_call 36; refine (lent36_o F N HN.out _ k3 _ w3 h3.rd (by omega)).mono ?_; rintro e w4 ⟨g4, k4, rfl, h4, hk4, b4⟩; have d4 := d3.trans (b4.mono d3.size); have hz4 := (b4.block w.heap.size (by have := b2.size; have := b3.size; omega)).trans hz3; have hx4 := hx.below d4)
    | (at_builtin; refine wpList_appW rfl (.tmp 32) (.tmp 33) 22 rfl w3.heap.size 5 1 1 Try.el22 (some ⟨g4, 0, none⟩) N k4 (bv F) rfl h4 w.heap.size A tail.length k (bv tail) rfl hx4 (by simp [bv]) (bv_one tail) (N + tail.length) (bv (F ++ tail)) (by omega) (by rw [bv_append]) (by omega) (by unfold maxLen; omega) b4.size ?_; intro A5 k5 w5 h5 hg5; have b35 := below_own b4 hg5 h4 b4.size; have d5 := d3.trans (b35.mono d3.size); have hz5 := (b35.block w.heap.size (by have := b2.size; have := b3.size; omega)).trans hz3; have h35 := h3.below b35 (Nat.le_refl _); clear h4 hg5 b4)
    | (go_at_call 37; have _t := tok3; go_loud (refine (HD.out _ k5 (own_capN h5) (own_cap h5) w5 h5.rd (by omega)).mono ?_); rintro e w6 ⟨b6, rfl⟩; have d6 := d5.trans (b6.mono d5.size); have hz6 := (b6.block w.heap.size (by have := b2.size; have := b3.size; have := b35.size; omega)).trans hz5; have h36 := h35.below b6 (Nat.le_refl _); unfold msgV mOr; simp only [Option.getD]; clear tok3 _t)
    | (go_at_call 47; refine (round47_any cut N _ hN0 (by omega)).mono ?_; rintro e w9 ⟨⟨j, hj, rfl⟩, rfl⟩; have hjk : (j : Int) ≤ (k3 : Int) := (by omega); have hj0 : (0 : Int) ≤ (j : Int) := (by omega))
    | (go_at_call 37; have _t := tok4; refine (HC.out j hj _ k3 (by intro h; cases h) (by omega) _ (rd_j h36 (one_box w6 w6.heap.size (Nat.le_refl _) _ 0)) (by omega)).mono ?_; rintro e w7 ⟨b7, rfl⟩; unfold msgV mOr; simp only [Option.getD]; clear tok4 _t; obtain ⟨hq7, d67, s7⟩ := box1_at (k := 0) b7; have d7 := d6.trans (d67.mono d6.size); have lt6 : w.heap.size < w6.heap.size := (by have := b2.size; have := b3.size; have := b35.size; have := b6.size; omega); have hz7 := (d67.block w.heap.size lt6).trans hz6; have lt7 : w.heap.size < w7.heap.size := (by omega); clear b7; have m0 : w7.cell? ⟨w.heap.size, 0, none⟩ = some (.int .i64 kd) := cellAt hz7 (j := 0) rfl; have m1 : w7.cell? ⟨w.heap.size, 1, none⟩ = some (.string nm) := cellAt hz7 (j := 1) rfl; have m2 : w7.cell? ⟨w.heap.size, 2, none⟩ = some (.int .i64 ve) := cellAt hz7 (j := 2) rfl; have m3 : w7.cell? ⟨w.heap.size, 3, none⟩ = some (.int .i64 fr) := cellAt hz7 (j := 3) rfl; have m4 : w7.cell? ⟨w.heap.size, 4, none⟩ = some (.int .i64 no) := cellAt hz7 (j := 4) rfl; have m5 : w7.cell? ⟨w.heap.size, 5, none⟩ = some (.int .i64 er) := cellAt hz7 (j := 5) rfl; have m6 : w7.cell? ⟨w.heap.size, 6, none⟩ = some (.string tx) := cellAt hz7 (j := 6) rfl; have q0 : w7.cell? ⟨w6.heap.size, 0, none⟩ = some (.int .i64 q.kind) := cellAt hq7 (j := 0) rfl; have q1 : w7.cell? ⟨w6.heap.size, 1, none⟩ = some (.string q.name) := cellAt hq7 (j := 1) rfl; have q2 : w7.cell? ⟨w6.heap.size, 2, none⟩ = some (.int .i64 q.version) := cellAt hq7 (j := 2) rfl; have q3 : w7.cell? ⟨w6.heap.size, 3, none⟩ = some (.int .i64 q.frm) := cellAt hq7 (j := 3) rfl; have q4 : w7.cell? ⟨w6.heap.size, 4, none⟩ = some (.int .i64 q.nonce) := cellAt hq7 (j := 4) rfl; have q5 : w7.cell? ⟨w6.heap.size, 5, none⟩ = some (.int .i64 q.err) := cellAt hq7 (j := 5) rfl; have q6 : w7.cell? ⟨w6.heap.size, 6, none⟩ = some (.string q.text) := cellAt hq7 (j := 6) rfl; have u0 : (w7.alloc (.cells #[.int .i64 0, .string ⟨#[]⟩, .int .i64 0, .int .i64 0, .int .i64 0, .int .i64 0, .string ⟨#[]⟩] 60)).cell? ⟨w.heap.size, 0, none⟩ = some (.int .i64 kd) := (World.cell?_alloc_some _ _ _ (by rw [m0]; rfl)).trans m0; have u1 : (w7.alloc (.cells #[.int .i64 0, .string ⟨#[]⟩, .int .i64 0, .int .i64 0, .int .i64 0, .int .i64 0, .string ⟨#[]⟩] 60)).cell? ⟨w.heap.size, 1, none⟩ = some (.string nm) := (World.cell?_alloc_some _ _ _ (by rw [m1]; rfl)).trans m1; have u2 : (w7.alloc (.cells #[.int .i64 0, .string ⟨#[]⟩, .int .i64 0, .int .i64 0, .int .i64 0, .int .i64 0, .string ⟨#[]⟩] 60)).cell? ⟨w.heap.size, 2, none⟩ = some (.int .i64 ve) := (World.cell?_alloc_some _ _ _ (by rw [m2]; rfl)).trans m2; have u3 : (w7.alloc (.cells #[.int .i64 0, .string ⟨#[]⟩, .int .i64 0, .int .i64 0, .int .i64 0, .int .i64 0, .string ⟨#[]⟩] 60)).cell? ⟨w.heap.size, 3, none⟩ = some (.int .i64 fr) := (World.cell?_alloc_some _ _ _ (by rw [m3]; rfl)).trans m3; have u4 : (w7.alloc (.cells #[.int .i64 0, .string ⟨#[]⟩, .int .i64 0, .int .i64 0, .int .i64 0, .int .i64 0, .string ⟨#[]⟩] 60)).cell? ⟨w.heap.size, 4, none⟩ = some (.int .i64 no) := (World.cell?_alloc_some _ _ _ (by rw [m4]; rfl)).trans m4; have u5 : (w7.alloc (.cells #[.int .i64 0, .string ⟨#[]⟩, .int .i64 0, .int .i64 0, .int .i64 0, .int .i64 0, .string ⟨#[]⟩] 60)).cell? ⟨w.heap.size, 5, none⟩ = some (.int .i64 er) := (World.cell?_alloc_some _ _ _ (by rw [m5]; rfl)).trans m5; have u6 : (w7.alloc (.cells #[.int .i64 0, .string ⟨#[]⟩, .int .i64 0, .int .i64 0, .int .i64 0, .int .i64 0, .string ⟨#[]⟩] 60)).cell? ⟨w.heap.size, 6, none⟩ = some (.string tx) := (World.cell?_alloc_some _ _ _ (by rw [m6]; rfl)).trans m6; have n0 : (w7.alloc (.cells #[.int .i64 0, .string ⟨#[]⟩, .int .i64 0, .int .i64 0, .int .i64 0, .int .i64 0, .string ⟨#[]⟩] 60)).cell? ⟨w6.heap.size, 0, none⟩ = some (.int .i64 q.kind) := (World.cell?_alloc_some _ _ _ (by rw [q0]; rfl)).trans q0; have n1 : (w7.alloc (.cells #[.int .i64 0, .string ⟨#[]⟩, .int .i64 0, .int .i64 0, .int .i64 0, .int .i64 0, .string ⟨#[]⟩] 60)).cell? ⟨w6.heap.size, 1, none⟩ = some (.string q.name) := (World.cell?_alloc_some _ _ _ (by rw [q1]; rfl)).trans q1; have n2 : (w7.alloc (.cells #[.int .i64 0, .string ⟨#[]⟩, .int .i64 0, .int .i64 0, .int .i64 0, .int .i64 0, .string ⟨#[]⟩] 60)).cell? ⟨w6.heap.size, 2, none⟩ = some (.int .i64 q.version) := (World.cell?_alloc_some _ _ _ (by rw [q2]; rfl)).trans q2; have n3 : (w7.alloc (.cells #[.int .i64 0, .string ⟨#[]⟩, .int .i64 0, .int .i64 0, .int .i64 0, .int .i64 0, .string ⟨#[]⟩] 60)).cell? ⟨w6.heap.size, 3, none⟩ = some (.int .i64 q.frm) := (World.cell?_alloc_some _ _ _ (by rw [q3]; rfl)).trans q3; have n4 : (w7.alloc (.cells #[.int .i64 0, .string ⟨#[]⟩, .int .i64 0, .int .i64 0, .int .i64 0, .int .i64 0, .string ⟨#[]⟩] 60)).cell? ⟨w6.heap.size, 4, none⟩ = some (.int .i64 q.nonce) := (World.cell?_alloc_some _ _ _ (by rw [q4]; rfl)).trans q4; have n5 : (w7.alloc (.cells #[.int .i64 0, .string ⟨#[]⟩, .int .i64 0, .int .i64 0, .int .i64 0, .int .i64 0, .string ⟨#[]⟩] 60)).cell? ⟨w6.heap.size, 5, none⟩ = some (.int .i64 q.err) := (World.cell?_alloc_some _ _ _ (by rw [q5]; rfl)).trans q5; have n6 : (w7.alloc (.cells #[.int .i64 0, .string ⟨#[]⟩, .int .i64 0, .int .i64 0, .int .i64 0, .int .i64 0, .string ⟨#[]⟩] 60)).cell? ⟨w6.heap.size, 6, none⟩ = some (.string q.text) := (World.cell?_alloc_some _ _ _ (by rw [q6]; rfl)).trans q6; clear m0 q0 m1 q1 m2 q2 m3 q3 m4 q4 m5 q5 m6 q6)
    | fail)
  have HZ7 := Lib.hid hz7
  have HQ7 := Lib.hid hq7
  clear b1 b2 b3 b6 b35 hz1 hz2 hz3 hz5 hz6 hz7 hq7 d1 d2 d3 d4 d5 d6 d67 h3 h5 h35 h36 hx hx1 hx4 z0 z1 z2 z3 z4 z5 z6
  go_region_held3 (fun w' => w'.cell? ⟨w.heap.size, 0, none⟩ = some (.int .i64 kd) ∧ w'.cell? ⟨w.heap.size, 1, none⟩ = some (.string nm) ∧ w'.cell? ⟨w.heap.size, 2, none⟩ = some (.int .i64 ve) ∧ w'.cell? ⟨w.heap.size, 3, none⟩ = some (.int .i64 fr) ∧ w'.cell? ⟨w.heap.size, 4, none⟩ = some (.int .i64 no) ∧ w'.cell? ⟨w.heap.size, 5, none⟩ = some (.int .i64 er) ∧ w'.cell? ⟨w.heap.size, 6, none⟩ = some (.string tx) ∧ w'.cell? ⟨w6.heap.size, 0, none⟩ = some (.int .i64 q.kind) ∧ w'.cell? ⟨w6.heap.size, 1, none⟩ = some (.string q.name) ∧ w'.cell? ⟨w6.heap.size, 2, none⟩ = some (.int .i64 q.version) ∧ w'.cell? ⟨w6.heap.size, 3, none⟩ = some (.int .i64 q.frm) ∧ w'.cell? ⟨w6.heap.size, 4, none⟩ = some (.int .i64 q.nonce) ∧ w'.cell? ⟨w6.heap.size, 5, none⟩ = some (.int .i64 q.err) ∧ w'.cell? ⟨w6.heap.size, 6, none⟩ = some (.string q.text))
    (first
      | go_keep
      | exact ⟨u0, u1, u2, u3, u4, u5, u6, n0, n1, n2, n3, n4, n5, n6⟩
      | exact ⟨c0, c1, c2, c3, c4, c5, c6, o0, o1, o2, o3, o4, o5, o6⟩
      | exact ⟨a0, a1, a2, a3, a4, a5, a6, e0, e1, e2, e3, e4, e5, e6⟩)
    (first
      | (go_at_call 34; go_loud (refine (HO.out _).mono ?_); rintro e w8 ⟨rfl, b8⟩; go_loud (have d78 : Below w7.heap.size w7 w8 := (((Below.refl w7.heap.size w7).alloc (Nat.le_refl _) _).drew).trans (b8.mono (by simp)); have hz8 := (d78.block w.heap.size lt7).trans HZ7.out; have hq8 := (d78.block w6.heap.size (by omega)).trans HQ7.out; have a0 : w8.cell? ⟨w.heap.size, 0, none⟩ = some (.int .i64 kd) := cellAt hz8 (j := 0) rfl; have a1 : w8.cell? ⟨w.heap.size, 1, none⟩ = some (.string nm) := cellAt hz8 (j := 1) rfl; have a2 : w8.cell? ⟨w.heap.size, 2, none⟩ = some (.int .i64 ve) := cellAt hz8 (j := 2) rfl; have a3 : w8.cell? ⟨w.heap.size, 3, none⟩ = some (.int .i64 fr) := cellAt hz8 (j := 3) rfl; have a4 : w8.cell? ⟨w.heap.size, 4, none⟩ = some (.int .i64 no) := cellAt hz8 (j := 4) rfl; have a5 : w8.cell? ⟨w.heap.size, 5, none⟩ = some (.int .i64 er) := cellAt hz8 (j := 5) rfl; have a6 : w8.cell? ⟨w.heap.size, 6, none⟩ = some (.string tx) := cellAt hz8 (j := 6) rfl; have e0 : w8.cell? ⟨w6.heap.size, 0, none⟩ = some (.int .i64 q.kind) := cellAt hq8 (j := 0) rfl; have e1 : w8.cell? ⟨w6.heap.size, 1, none⟩ = some (.string q.name) := cellAt hq8 (j := 1) rfl; have e2 : w8.cell? ⟨w6.heap.size, 2, none⟩ = some (.int .i64 q.version) := cellAt hq8 (j := 2) rfl; have e3 : w8.cell? ⟨w6.heap.size, 3, none⟩ = some (.int .i64 q.frm) := cellAt hq8 (j := 3) rfl; have e4 : w8.cell? ⟨w6.heap.size, 4, none⟩ = some (.int .i64 q.nonce) := cellAt hq8 (j := 4) rfl; have e5 : w8.cell? ⟨w6.heap.size, 5, none⟩ = some (.int .i64 q.err) := cellAt hq8 (j := 5) rfl; have e6 : w8.cell? ⟨w6.heap.size, 6, none⟩ = some (.string q.text) := cellAt hq8 (j := 6) rfl; clear hz8 hq8 b8))
      | (go_at_call 48; go_loud (refine (HPL.out _).mono ?_); rintro e w9 ⟨rfl, b9⟩; go_loud (unfold msgV; have d79 := d78.trans (b9.mono d78.size); have hz9 := (d79.block w.heap.size lt7).trans HZ7.out; have hq9 := (d79.block w6.heap.size (by omega)).trans HQ7.out; have c0 : w9.cell? ⟨w.heap.size, 0, none⟩ = some (.int .i64 kd) := cellAt hz9 (j := 0) rfl; have c1 : w9.cell? ⟨w.heap.size, 1, none⟩ = some (.string nm) := cellAt hz9 (j := 1) rfl; have c2 : w9.cell? ⟨w.heap.size, 2, none⟩ = some (.int .i64 ve) := cellAt hz9 (j := 2) rfl; have c3 : w9.cell? ⟨w.heap.size, 3, none⟩ = some (.int .i64 fr) := cellAt hz9 (j := 3) rfl; have c4 : w9.cell? ⟨w.heap.size, 4, none⟩ = some (.int .i64 no) := cellAt hz9 (j := 4) rfl; have c5 : w9.cell? ⟨w.heap.size, 5, none⟩ = some (.int .i64 er) := cellAt hz9 (j := 5) rfl; have c6 : w9.cell? ⟨w.heap.size, 6, none⟩ = some (.string tx) := cellAt hz9 (j := 6) rfl; have o0 : w9.cell? ⟨w6.heap.size, 0, none⟩ = some (.int .i64 q.kind) := cellAt hq9 (j := 0) rfl; have o1 : w9.cell? ⟨w6.heap.size, 1, none⟩ = some (.string q.name) := cellAt hq9 (j := 1) rfl; have o2 : w9.cell? ⟨w6.heap.size, 2, none⟩ = some (.int .i64 q.version) := cellAt hq9 (j := 2) rfl; have o3 : w9.cell? ⟨w6.heap.size, 3, none⟩ = some (.int .i64 q.frm) := cellAt hq9 (j := 3) rfl; have o4 : w9.cell? ⟨w6.heap.size, 4, none⟩ = some (.int .i64 q.nonce) := cellAt hq9 (j := 4) rfl; have o5 : w9.cell? ⟨w6.heap.size, 5, none⟩ = some (.int .i64 q.err) := cellAt hq9 (j := 5) rfl; have o6 : w9.cell? ⟨w6.heap.size, 6, none⟩ = some (.string q.text) := cellAt hq9 (j := 6) rfl; clear hz9 hq9 b9)))
  have d9 := d7.trans (d79.mono d7.size)
  clear a0 a1 a2 a3 a4 a5 a6 e0 e1 e2 e3 e4 e5 e6 c0 c1 c2 c3 c4 c5 c6 o0 o1 o2 o3 o4 o5 o6 u0 u1 u2 u3 u4 u5 u6 n0 n1 n2 n3 n4 n5 n6 d78 d79
  have hx9 := HX.out.below d9
  go_wp2_with (first
    | (go_at_call 36; go_loud (refine (lent36_o tail tail.length rfl A k _ w9 hx9 (by omega)).mono ?_); rintro e w10 ⟨g10, k10, rfl, h10, hk10, b10⟩; have d10 := d9.trans (b10.mono d9.size))
    | (go_at_call 37; go_loud (refine (HT.out _ k10 (by intro h; cases h) hk10 w10 h10.rd (by omega)).mono ?_); rintro e w11 ⟨b11, rfl⟩; unfold msgV mOr; simp only [Option.getD]; have d11 := d10.trans (b11.mono d10.size))
    | (go_at_call 33; go_loud (refine (HE2.out _).mono ?_); rintro e w12 ⟨A12, k12, rfl, h12, b12⟩; go_loud (rw [HL2.out] at h12 ⊢; obtain ⟨hz12, d112, s12⟩ := box1_at (k := 0) b12; have d12 := d11.trans (d112.mono d11.size); have r0 : w12.cell? ⟨w11.heap.size, 0, none⟩ = some (.int .i64 m2.kind) := cellAt hz12 (j := 0) rfl; have r1 : w12.cell? ⟨w11.heap.size, 1, none⟩ = some (.string m2.name) := cellAt hz12 (j := 1) rfl; have r2 : w12.cell? ⟨w11.heap.size, 2, none⟩ = some (.int .i64 m2.version) := cellAt hz12 (j := 2) rfl; have r3 : w12.cell? ⟨w11.heap.size, 3, none⟩ = some (.int .i64 m2.frm) := cellAt hz12 (j := 3) rfl; have r4 : w12.cell? ⟨w11.heap.size, 4, none⟩ = some (.int .i64 m2.nonce) := cellAt hz12 (j := 4) rfl; have r5 : w12.cell? ⟨w11.heap.size, 5, none⟩ = some (.int .i64 m2.err) := cellAt hz12 (j := 5) rfl; have r6 : w12.cell? ⟨w11.heap.size, 6, none⟩ = some (.string m2.text) := cellAt hz12 (j := 6) rfl; have HCV := Lib.hid (fun (W : World) (hW : Below w12.heap.size w12 W) => And.intro (conv_any (h12.below hW (Nat.le_refl _)).rd n2 HL2.out.symm k12) (conv_any (w := W) (B := w.heap.size) (xs := F2) (by have h := (HX.out.below (d12.trans (hW.mono d12.size))).take n2; rw [show (bv tail).take n2 = bv (tail.take n2) by simp [bv, List.map_take], HTK.out] at h; exact h) n2 HL2.out.symm k)); have HZ12 := Lib.hid hz12; clear hz12 b12))
    | fail)
  have k1 := (HCV.out w12.drew ((Below.refl w12.heap.size w12).drew)).1
  have k2 := (HCV.out w12.drew ((Below.refl w12.heap.size w12).drew)).2
  go_region_held3 (fun w' => w'.cell? ⟨w11.heap.size, 0, none⟩ = some (.int .i64 m2.kind) ∧ w'.cell? ⟨w11.heap.size, 1, none⟩ = some (.string m2.name) ∧ w'.cell? ⟨w11.heap.size, 2, none⟩ = some (.int .i64 m2.version) ∧ w'.cell? ⟨w11.heap.size, 3, none⟩ = some (.int .i64 m2.frm) ∧ w'.cell? ⟨w11.heap.size, 4, none⟩ = some (.int .i64 m2.nonce) ∧ w'.cell? ⟨w11.heap.size, 5, none⟩ = some (.int .i64 m2.err) ∧ w'.cell? ⟨w11.heap.size, 6, none⟩ = some (.string m2.text) ∧ (convert 22 9 (.slice A12 n2 k12)).run Try.prog w' = .ok (.string (str F2)) w' ∧ (convert 22 9 (.slice A n2 k)).run Try.prog w' = .ok (.string (str F2)) w')
    (first
      | go_keep
      | exact ⟨r0, r1, r2, r3, r4, r5, r6, (HCV.out _ (Below.refl _ _)).1, (HCV.out _ (Below.refl _ _)).2⟩
      | exact ⟨r0, r1, r2, r3, r4, r5, r6, k1, k2⟩
      | (go_split_ands; refine ⟨?_, ?_, ?_, ?_, ?_, ?_, ?_, k1, k2⟩; all_goals simp [*])
      | exact ⟨cellAt hz13 (j := 0) rfl, cellAt hz13 (j := 1) rfl, cellAt hz13 (j := 2) rfl, cellAt hz13 (j := 3) rfl, cellAt hz13 (j := 4) rfl, cellAt hz13 (j := 5) rfl, cellAt hz13 (j := 6) rfl, (HCV.out _ d1213).1, (HCV.out _ d1213).2⟩)
    ((go_at_call 48; go_loud (refine (HPM.out _).mono ?_); rintro e w13 ⟨rfl, b13⟩; go_loud (unfold msgV; have d1213 : Below w12.heap.size w12 w13 := ((Below.refl w12.heap.size w12).drew).trans b13; have hz13 := (d1213.block w11.heap.size (by omega)).trans HZ12.out)))
  go_wp2
  go_ret
  exact ⟨rfl, d12.trans (((Below.refl w12.heap.size w12).drew.trans b13).mono d12.size)⟩

set_option maxRecDepth 100000 in
set_option maxHeartbeats 2000000 in
theorem fb_some_bad (kd : Int) (nm : ByteArray) (ve fr no er : Int) (tx : ByteArray) (m : Msg) (hme : m = ⟨kd, nm, ve, fr, no, er, tx⟩) (p : List UInt8) (hp : payM m = some p) (tail : List UInt8) (A : Option Addr) (k : Nat) (cut : Int) (w : World) (hx : Rd w w.heap.size A (bv tail)) (hl : tail.length ≤ 140737488351232) (E : Int) (hT : decT tail = (none, 0, E)) (hE : (E == 0) = false) :
    Calls Try.prog 13 #[.agg #[.int .i64 kd, .string nm, .int .i64 ve, .int .i64 fr, .int .i64 no, .int .i64 er, .string tx], .slice A tail.length k, .int .i64 cut] w fun e w' => e = .returned (.bool true) ∧ Below w.heap.size w w' := by
  have HT := Lib.hid (dec37 hT tail.length rfl)
  clear hT
  have hpl : p.length ≤ 131072 := paySpec_len hp
  have hm := msgS_pay hp
  have D1 := decT_frame (r := tail) hpl hm
  have DC := fun j hj => decT_cut hpl (j := j) hj
  have HE := fun W => enc_m hp W
  obtain ⟨q, hq⟩ : ∃ q, q = plainM m := ⟨_, rfl⟩
  have HPL := Lib.hid (fun W => plain48_any m W)
  rw [← hq] at D1 HPL
  have hfl := frame_len p
  simp only [show encF (some p) = frame p from rfl, show encE (some p) = 0 from rfl] at HE
  obtain ⟨F, hF⟩ : ∃ F, F = frame p := ⟨_, rfl⟩
  rw [← hF] at D1 HE hfl
  simp only [← hF] at DC
  obtain ⟨N, hN⟩ : ∃ N, N = F.length := ⟨_, rfl⟩
  rw [← hfl, ← hN] at D1
  have hN0 : 0 < N := by omega
  have hNb : N ≤ 131080 := by omega
  have hDC : ∀ j, j < N → decT (F.take j) = (none, 0, 10) := fun j hj => DC j (by omega)
  have HD := Lib.hid (dec37 D1 (N + tail.length) (by rw [List.length_append, hN]))
  have HC := Lib.hid (fun j hj => dec37 (hDC j hj) j (by rw [List.length_take]; omega))
  subst hme
  unfold msgV at HE
  have HEE := Lib.hid HE
  have HN := Lib.hid hN
  have HO := Lib.hid (fun W => own_any kd nm tx ve fr no er W)
  have HX := Lib.hid hx
  clear D1 DC HE hfl hF hDC hm hp hq hN
  have tok1 : True := trivial
  have tok2 : True := trivial
  have tok3 : True := trivial
  have tok4 : True := trivial
  go_enter Try.func13, Try.ntmps13
  go_wp2_with (first
    | (go_at_call 46; refine (awake46_any _).mono ?_; rintro e w1 ⟨rfl, b1⟩; obtain ⟨hz1, d1, s1⟩ := box1_at (k := 0) b1; have hx1 := hx.below d1; have z0 : w1.cell? ⟨w.heap.size, 0, none⟩ = some (.int .i64 kd) := cellAt hz1 (j := 0) rfl; have z1 : w1.cell? ⟨w.heap.size, 1, none⟩ = some (.string nm) := cellAt hz1 (j := 1) rfl; have z2 : w1.cell? ⟨w.heap.size, 2, none⟩ = some (.int .i64 ve) := cellAt hz1 (j := 2) rfl; have z3 : w1.cell? ⟨w.heap.size, 3, none⟩ = some (.int .i64 fr) := cellAt hz1 (j := 3) rfl; have z4 : w1.cell? ⟨w.heap.size, 4, none⟩ = some (.int .i64 no) := cellAt hz1 (j := 4) rfl; have z5 : w1.cell? ⟨w.heap.size, 5, none⟩ = some (.int .i64 er) := cellAt hz1 (j := 5) rfl; have z6 : w1.cell? ⟨w.heap.size, 6, none⟩ = some (.string tx) := cellAt hz1 (j := 6) rfl; have s1' : w.heap.size < w1.heap.size := s1)
    | (go_at_call 34; have _t := tok1; refine (HO.out _).mono ?_; rintro e w2 ⟨rfl, b2⟩; clear tok1 _t; have d2 := d1.trans (b2.mono d1.size); have hz2 := (b2.block w.heap.size (by omega)).trans hz1)
    | (go_at_call 33; refine (HEE.out _).mono ?_; rintro e w3 ⟨A3, k3, rfl, h3, b3⟩; rw [← HN.out] at h3 ⊢; have d3 := d2.trans (b3.mono d2.size); have hz3 := (b3.block w.heap.size (by have := b2.size; omega)).trans hz2; obtain ⟨g3, rfl, hge3, hlt3, hle3⟩ := h3.form_pos (by omega))
    | (go_at_call 36; refine (lent36_o F N HN.out _ k3 _ w3 h3.rd (by omega)).mono ?_; rintro e w4 ⟨g4, k4, rfl, h4, hk4, b4⟩; have d4 := d3.trans (b4.mono d3.size); have hz4 := (b4.block w.heap.size (by have := b2.size; have := b3.size; omega)).trans hz3; have hx4 := hx.below d4)
    | (at_builtin; refine wpList_appW rfl (.tmp 32) (.tmp 33) 22 rfl w3.heap.size 5 1 1 Try.el22 (some ⟨g4, 0, none⟩) N k4 (bv F) rfl h4 w.heap.size A tail.length k (bv tail) rfl hx4 (by simp [bv]) (bv_one tail) (N + tail.length) (bv (F ++ tail)) (by omega) (by rw [bv_append]) (by omega) (by unfold maxLen; omega) b4.size ?_; intro A5 k5 w5 h5 hg5; have b35 := below_own b4 hg5 h4 b4.size; have d5 := d3.trans (b35.mono d3.size); have hz5 := (b35.block w.heap.size (by have := b2.size; have := b3.size; omega)).trans hz3; have h35 := h3.below b35 (Nat.le_refl _); clear h4 hg5 b4)
    | (go_at_call 37; have _t := tok3; go_loud (refine (HD.out _ k5 (own_capN h5) (own_cap h5) w5 h5.rd (by omega)).mono ?_); rintro e w6 ⟨b6, rfl⟩; have d6 := d5.trans (b6.mono d5.size); have hz6 := (b6.block w.heap.size (by have := b2.size; have := b3.size; have := b35.size; omega)).trans hz5; have h36 := h35.below b6 (Nat.le_refl _); unfold msgV mOr; simp only [Option.getD]; clear tok3 _t)
    | (go_at_call 47; refine (round47_any cut N _ hN0 (by omega)).mono ?_; rintro e w9 ⟨⟨j, hj, rfl⟩, rfl⟩; have hjk : (j : Int) ≤ (k3 : Int) := (by omega); have hj0 : (0 : Int) ≤ (j : Int) := (by omega))
    | (go_at_call 37; have _t := tok4; refine (HC.out j hj _ k3 (by intro h; cases h) (by omega) _ (rd_j h36 (one_box w6 w6.heap.size (Nat.le_refl _) _ 0)) (by omega)).mono ?_; rintro e w7 ⟨b7, rfl⟩; unfold msgV mOr; simp only [Option.getD]; clear tok4 _t; obtain ⟨hq7, d67, s7⟩ := box1_at (k := 0) b7; have d7 := d6.trans (d67.mono d6.size); have lt6 : w.heap.size < w6.heap.size := (by have := b2.size; have := b3.size; have := b35.size; have := b6.size; omega); have hz7 := (d67.block w.heap.size lt6).trans hz6; have lt7 : w.heap.size < w7.heap.size := (by omega); clear b7; have m0 : w7.cell? ⟨w.heap.size, 0, none⟩ = some (.int .i64 kd) := cellAt hz7 (j := 0) rfl; have m1 : w7.cell? ⟨w.heap.size, 1, none⟩ = some (.string nm) := cellAt hz7 (j := 1) rfl; have m2 : w7.cell? ⟨w.heap.size, 2, none⟩ = some (.int .i64 ve) := cellAt hz7 (j := 2) rfl; have m3 : w7.cell? ⟨w.heap.size, 3, none⟩ = some (.int .i64 fr) := cellAt hz7 (j := 3) rfl; have m4 : w7.cell? ⟨w.heap.size, 4, none⟩ = some (.int .i64 no) := cellAt hz7 (j := 4) rfl; have m5 : w7.cell? ⟨w.heap.size, 5, none⟩ = some (.int .i64 er) := cellAt hz7 (j := 5) rfl; have m6 : w7.cell? ⟨w.heap.size, 6, none⟩ = some (.string tx) := cellAt hz7 (j := 6) rfl; have q0 : w7.cell? ⟨w6.heap.size, 0, none⟩ = some (.int .i64 q.kind) := cellAt hq7 (j := 0) rfl; have q1 : w7.cell? ⟨w6.heap.size, 1, none⟩ = some (.string q.name) := cellAt hq7 (j := 1) rfl; have q2 : w7.cell? ⟨w6.heap.size, 2, none⟩ = some (.int .i64 q.version) := cellAt hq7 (j := 2) rfl; have q3 : w7.cell? ⟨w6.heap.size, 3, none⟩ = some (.int .i64 q.frm) := cellAt hq7 (j := 3) rfl; have q4 : w7.cell? ⟨w6.heap.size, 4, none⟩ = some (.int .i64 q.nonce) := cellAt hq7 (j := 4) rfl; have q5 : w7.cell? ⟨w6.heap.size, 5, none⟩ = some (.int .i64 q.err) := cellAt hq7 (j := 5) rfl; have q6 : w7.cell? ⟨w6.heap.size, 6, none⟩ = some (.string q.text) := cellAt hq7 (j := 6) rfl; have u0 : (w7.alloc (.cells #[.int .i64 0, .string ⟨#[]⟩, .int .i64 0, .int .i64 0, .int .i64 0, .int .i64 0, .string ⟨#[]⟩] 60)).cell? ⟨w.heap.size, 0, none⟩ = some (.int .i64 kd) := (World.cell?_alloc_some _ _ _ (by rw [m0]; rfl)).trans m0; have u1 : (w7.alloc (.cells #[.int .i64 0, .string ⟨#[]⟩, .int .i64 0, .int .i64 0, .int .i64 0, .int .i64 0, .string ⟨#[]⟩] 60)).cell? ⟨w.heap.size, 1, none⟩ = some (.string nm) := (World.cell?_alloc_some _ _ _ (by rw [m1]; rfl)).trans m1; have u2 : (w7.alloc (.cells #[.int .i64 0, .string ⟨#[]⟩, .int .i64 0, .int .i64 0, .int .i64 0, .int .i64 0, .string ⟨#[]⟩] 60)).cell? ⟨w.heap.size, 2, none⟩ = some (.int .i64 ve) := (World.cell?_alloc_some _ _ _ (by rw [m2]; rfl)).trans m2; have u3 : (w7.alloc (.cells #[.int .i64 0, .string ⟨#[]⟩, .int .i64 0, .int .i64 0, .int .i64 0, .int .i64 0, .string ⟨#[]⟩] 60)).cell? ⟨w.heap.size, 3, none⟩ = some (.int .i64 fr) := (World.cell?_alloc_some _ _ _ (by rw [m3]; rfl)).trans m3; have u4 : (w7.alloc (.cells #[.int .i64 0, .string ⟨#[]⟩, .int .i64 0, .int .i64 0, .int .i64 0, .int .i64 0, .string ⟨#[]⟩] 60)).cell? ⟨w.heap.size, 4, none⟩ = some (.int .i64 no) := (World.cell?_alloc_some _ _ _ (by rw [m4]; rfl)).trans m4; have u5 : (w7.alloc (.cells #[.int .i64 0, .string ⟨#[]⟩, .int .i64 0, .int .i64 0, .int .i64 0, .int .i64 0, .string ⟨#[]⟩] 60)).cell? ⟨w.heap.size, 5, none⟩ = some (.int .i64 er) := (World.cell?_alloc_some _ _ _ (by rw [m5]; rfl)).trans m5; have u6 : (w7.alloc (.cells #[.int .i64 0, .string ⟨#[]⟩, .int .i64 0, .int .i64 0, .int .i64 0, .int .i64 0, .string ⟨#[]⟩] 60)).cell? ⟨w.heap.size, 6, none⟩ = some (.string tx) := (World.cell?_alloc_some _ _ _ (by rw [m6]; rfl)).trans m6; have n0 : (w7.alloc (.cells #[.int .i64 0, .string ⟨#[]⟩, .int .i64 0, .int .i64 0, .int .i64 0, .int .i64 0, .string ⟨#[]⟩] 60)).cell? ⟨w6.heap.size, 0, none⟩ = some (.int .i64 q.kind) := (World.cell?_alloc_some _ _ _ (by rw [q0]; rfl)).trans q0; have n1 : (w7.alloc (.cells #[.int .i64 0, .string ⟨#[]⟩, .int .i64 0, .int .i64 0, .int .i64 0, .int .i64 0, .string ⟨#[]⟩] 60)).cell? ⟨w6.heap.size, 1, none⟩ = some (.string q.name) := (World.cell?_alloc_some _ _ _ (by rw [q1]; rfl)).trans q1; have n2 : (w7.alloc (.cells #[.int .i64 0, .string ⟨#[]⟩, .int .i64 0, .int .i64 0, .int .i64 0, .int .i64 0, .string ⟨#[]⟩] 60)).cell? ⟨w6.heap.size, 2, none⟩ = some (.int .i64 q.version) := (World.cell?_alloc_some _ _ _ (by rw [q2]; rfl)).trans q2; have n3 : (w7.alloc (.cells #[.int .i64 0, .string ⟨#[]⟩, .int .i64 0, .int .i64 0, .int .i64 0, .int .i64 0, .string ⟨#[]⟩] 60)).cell? ⟨w6.heap.size, 3, none⟩ = some (.int .i64 q.frm) := (World.cell?_alloc_some _ _ _ (by rw [q3]; rfl)).trans q3; have n4 : (w7.alloc (.cells #[.int .i64 0, .string ⟨#[]⟩, .int .i64 0, .int .i64 0, .int .i64 0, .int .i64 0, .string ⟨#[]⟩] 60)).cell? ⟨w6.heap.size, 4, none⟩ = some (.int .i64 q.nonce) := (World.cell?_alloc_some _ _ _ (by rw [q4]; rfl)).trans q4; have n5 : (w7.alloc (.cells #[.int .i64 0, .string ⟨#[]⟩, .int .i64 0, .int .i64 0, .int .i64 0, .int .i64 0, .string ⟨#[]⟩] 60)).cell? ⟨w6.heap.size, 5, none⟩ = some (.int .i64 q.err) := (World.cell?_alloc_some _ _ _ (by rw [q5]; rfl)).trans q5; have n6 : (w7.alloc (.cells #[.int .i64 0, .string ⟨#[]⟩, .int .i64 0, .int .i64 0, .int .i64 0, .int .i64 0, .string ⟨#[]⟩] 60)).cell? ⟨w6.heap.size, 6, none⟩ = some (.string q.text) := (World.cell?_alloc_some _ _ _ (by rw [q6]; rfl)).trans q6; clear m0 q0 m1 q1 m2 q2 m3 q3 m4 q4 m5 q5 m6 q6)
    | fail)
  have HZ7 := Lib.hid hz7
  have HQ7 := Lib.hid hq7
  clear b1 b2 b3 b6 b35 hz1 hz2 hz3 hz5 hz6 hz7 hq7 d1 d2 d3 d4 d5 d6 d67 h3 h5 h35 h36 hx hx1 hx4 z0 z1 z2 z3 z4 z5 z6
  go_region_held3 (fun w' => w'.cell? ⟨w.heap.size, 0, none⟩ = some (.int .i64 kd) ∧ w'.cell? ⟨w.heap.size, 1, none⟩ = some (.string nm) ∧ w'.cell? ⟨w.heap.size, 2, none⟩ = some (.int .i64 ve) ∧ w'.cell? ⟨w.heap.size, 3, none⟩ = some (.int .i64 fr) ∧ w'.cell? ⟨w.heap.size, 4, none⟩ = some (.int .i64 no) ∧ w'.cell? ⟨w.heap.size, 5, none⟩ = some (.int .i64 er) ∧ w'.cell? ⟨w.heap.size, 6, none⟩ = some (.string tx) ∧ w'.cell? ⟨w6.heap.size, 0, none⟩ = some (.int .i64 q.kind) ∧ w'.cell? ⟨w6.heap.size, 1, none⟩ = some (.string q.name) ∧ w'.cell? ⟨w6.heap.size, 2, none⟩ = some (.int .i64 q.version) ∧ w'.cell? ⟨w6.heap.size, 3, none⟩ = some (.int .i64 q.frm) ∧ w'.cell? ⟨w6.heap.size, 4, none⟩ = some (.int .i64 q.nonce) ∧ w'.cell? ⟨w6.heap.size, 5, none⟩ = some (.int .i64 q.err) ∧ w'.cell? ⟨w6.heap.size, 6, none⟩ = some (.string q.text))
    (first
      | go_keep
      | exact ⟨u0, u1, u2, u3, u4, u5, u6, n0, n1, n2, n3, n4, n5, n6⟩
      | exact ⟨c0, c1, c2, c3, c4, c5, c6, o0, o1, o2, o3, o4, o5, o6⟩
      | exact ⟨a0, a1, a2, a3, a4, a5, a6, e0, e1, e2, e3, e4, e5, e6⟩)
    (first
      | (go_at_call 34; go_loud (refine (HO.out _).mono ?_); rintro e w8 ⟨rfl, b8⟩; go_loud (have d78 : Below w7.heap.size w7 w8 := (((Below.refl w7.heap.size w7).alloc (Nat.le_refl _) _).drew).trans (b8.mono (by simp)); have hz8 := (d78.block w.heap.size lt7).trans HZ7.out; have hq8 := (d78.block w6.heap.size (by omega)).trans HQ7.out; have a0 : w8.cell? ⟨w.heap.size, 0, none⟩ = some (.int .i64 kd) := cellAt hz8 (j := 0) rfl; have a1 : w8.cell? ⟨w.heap.size, 1, none⟩ = some (.string nm) := cellAt hz8 (j := 1) rfl; have a2 : w8.cell? ⟨w.heap.size, 2, none⟩ = some (.int .i64 ve) := cellAt hz8 (j := 2) rfl; have a3 : w8.cell? ⟨w.heap.size, 3, none⟩ = some (.int .i64 fr) := cellAt hz8 (j := 3) rfl; have a4 : w8.cell? ⟨w.heap.size, 4, none⟩ = some (.int .i64 no) := cellAt hz8 (j := 4) rfl; have a5 : w8.cell? ⟨w.heap.size, 5, none⟩ = some (.int .i64 er) := cellAt hz8 (j := 5) rfl; have a6 : w8.cell? ⟨w.heap.size, 6, none⟩ = some (.string tx) := cellAt hz8 (j := 6) rfl; have e0 : w8.cell? ⟨w6.heap.size, 0, none⟩ = some (.int .i64 q.kind) := cellAt hq8 (j := 0) rfl; have e1 : w8.cell? ⟨w6.heap.size, 1, none⟩ = some (.string q.name) := cellAt hq8 (j := 1) rfl; have e2 : w8.cell? ⟨w6.heap.size, 2, none⟩ = some (.int .i64 q.version) := cellAt hq8 (j := 2) rfl; have e3 : w8.cell? ⟨w6.heap.size, 3, none⟩ = some (.int .i64 q.frm) := cellAt hq8 (j := 3) rfl; have e4 : w8.cell? ⟨w6.heap.size, 4, none⟩ = some (.int .i64 q.nonce) := cellAt hq8 (j := 4) rfl; have e5 : w8.cell? ⟨w6.heap.size, 5, none⟩ = some (.int .i64 q.err) := cellAt hq8 (j := 5) rfl; have e6 : w8.cell? ⟨w6.heap.size, 6, none⟩ = some (.string q.text) := cellAt hq8 (j := 6) rfl; clear hz8 hq8 b8))
      | (go_at_call 48; go_loud (refine (HPL.out _).mono ?_); rintro e w9 ⟨rfl, b9⟩; go_loud (unfold msgV; have d79 := d78.trans (b9.mono d78.size); have hz9 := (d79.block w.heap.size lt7).trans HZ7.out; have hq9 := (d79.block w6.heap.size (by omega)).trans HQ7.out; have c0 : w9.cell? ⟨w.heap.size, 0, none⟩ = some (.int .i64 kd) := cellAt hz9 (j := 0) rfl; have c1 : w9.cell? ⟨w.heap.size, 1, none⟩ = some (.string nm) := cellAt hz9 (j := 1) rfl; have c2 : w9.cell? ⟨w.heap.size, 2, none⟩ = some (.int .i64 ve) := cellAt hz9 (j := 2) rfl; have c3 : w9.cell? ⟨w.heap.size, 3, none⟩ = some (.int .i64 fr) := cellAt hz9 (j := 3) rfl; have c4 : w9.cell? ⟨w.heap.size, 4, none⟩ = some (.int .i64 no) := cellAt hz9 (j := 4) rfl; have c5 : w9.cell? ⟨w.heap.size, 5, none⟩ = some (.int .i64 er) := cellAt hz9 (j := 5) rfl; have c6 : w9.cell? ⟨w.heap.size, 6, none⟩ = some (.string tx) := cellAt hz9 (j := 6) rfl; have o0 : w9.cell? ⟨w6.heap.size, 0, none⟩ = some (.int .i64 q.kind) := cellAt hq9 (j := 0) rfl; have o1 : w9.cell? ⟨w6.heap.size, 1, none⟩ = some (.string q.name) := cellAt hq9 (j := 1) rfl; have o2 : w9.cell? ⟨w6.heap.size, 2, none⟩ = some (.int .i64 q.version) := cellAt hq9 (j := 2) rfl; have o3 : w9.cell? ⟨w6.heap.size, 3, none⟩ = some (.int .i64 q.frm) := cellAt hq9 (j := 3) rfl; have o4 : w9.cell? ⟨w6.heap.size, 4, none⟩ = some (.int .i64 q.nonce) := cellAt hq9 (j := 4) rfl; have o5 : w9.cell? ⟨w6.heap.size, 5, none⟩ = some (.int .i64 q.err) := cellAt hq9 (j := 5) rfl; have o6 : w9.cell? ⟨w6.heap.size, 6, none⟩ = some (.string q.text) := cellAt hq9 (j := 6) rfl; clear hz9 hq9 b9)))
  have d9 := d7.trans (d79.mono d7.size)
  clear a0 a1 a2 a3 a4 a5 a6 e0 e1 e2 e3 e4 e5 e6 c0 c1 c2 c3 c4 c5 c6 o0 o1 o2 o3 o4 o5 o6 u0 u1 u2 u3 u4 u5 u6 n0 n1 n2 n3 n4 n5 n6 d78 d79
  have hx9 := HX.out.below d9
  go_wp2_with (first
    | (go_at_call 36; go_loud (refine (lent36_o tail tail.length rfl A k _ w9 hx9 (by omega)).mono ?_); rintro e w10 ⟨g10, k10, rfl, h10, hk10, b10⟩; have d10 := d9.trans (b10.mono d9.size))
    | (go_at_call 37; go_loud (refine (HT.out _ k10 (by intro h; cases h) hk10 w10 h10.rd (by omega)).mono ?_); rintro e w11 ⟨b11, rfl⟩; unfold msgV mOr; simp only [Option.getD]; have d11 := d10.trans (b11.mono d10.size))
    | fail)
  go_ret
  exact ⟨rfl, d11.alloc d11.size _⟩

set_option maxRecDepth 100000 in
set_option maxHeartbeats 2000000 in
theorem fb_none_good (kd : Int) (nm : ByteArray) (ve fr no er : Int) (tx : ByteArray) (m : Msg) (hme : m = ⟨kd, nm, ve, fr, no, er, tx⟩) (hp : payM m = none) (tail : List UInt8) (A : Option Addr) (k : Nat) (cut : Int) (w : World) (hx : Rd w w.heap.size A (bv tail)) (hl : tail.length ≤ 140737488351232) (n2 : Nat) (m2 : Msg) (F2 : List UInt8) (hT : decT tail = (some m2, (n2 : Int), 0)) (hE2 : ∀ W, Calls Try.prog 33 #[msgV m2] W (PairOut W F2 0)) (hpm : plainM m2 = m2) (hn2 : F2.length = n2) (hle : n2 ≤ tail.length) (htk : tail.take n2 = F2) (hk : tail.length ≤ k) :
    Calls Try.prog 13 #[.agg #[.int .i64 kd, .string nm, .int .i64 ve, .int .i64 fr, .int .i64 no, .int .i64 er, .string tx], .slice A tail.length k, .int .i64 cut] w fun e w' => e = .returned (.bool true) ∧ Below w.heap.size w w' := by
  have HT := Lib.hid (dec37 hT tail.length rfl)
  have HE2 := Lib.hid hE2
  have HL2 := Lib.hid hn2
  have HPM := Lib.hid (fun W => plain48_any m2 W)
  rw [hpm] at HPM
  have hleI : (n2 : Int) ≤ (tail.length : Int) := by omega
  have hnk : (n2 : Int) ≤ (k : Int) := by omega
  have hn0 : (0 : Int) ≤ (n2 : Int) := Int.natCast_nonneg _
  have HTK := Lib.hid htk
  clear hT hE2 hpm hn2 htk
  have HE := fun W => enc_m hp W
  simp only [show encF none = [] from rfl, show encE none = 2 from rfl] at HE
  subst hme
  unfold msgV at HE
  have HEE := Lib.hid HE
  have HO := Lib.hid (fun W => own_any kd nm tx ve fr no er W)
  clear HE hp
  have HX := Lib.hid hx
  clear hx
  have tok1 : True := trivial
  have tok2 : True := trivial
  go_enter Try.func13, Try.ntmps13
  go_wp2_with (first
    | (go_at_call 46; refine (awake46_any _).mono ?_; rintro e w1 ⟨rfl, b1⟩; obtain ⟨hz1, d1, s1⟩ := box1_at (k := 0) b1; have z0 : w1.cell? ⟨w.heap.size, 0, none⟩ = some (.int .i64 kd) := cellAt hz1 (j := 0) rfl; have z1 : w1.cell? ⟨w.heap.size, 1, none⟩ = some (.string nm) := cellAt hz1 (j := 1) rfl; have z2 : w1.cell? ⟨w.heap.size, 2, none⟩ = some (.int .i64 ve) := cellAt hz1 (j := 2) rfl; have z3 : w1.cell? ⟨w.heap.size, 3, none⟩ = some (.int .i64 fr) := cellAt hz1 (j := 3) rfl; have z4 : w1.cell? ⟨w.heap.size, 4, none⟩ = some (.int .i64 no) := cellAt hz1 (j := 4) rfl; have z5 : w1.cell? ⟨w.heap.size, 5, none⟩ = some (.int .i64 er) := cellAt hz1 (j := 5) rfl; have z6 : w1.cell? ⟨w.heap.size, 6, none⟩ = some (.string tx) := cellAt hz1 (j := 6) rfl; clear hz1)
    | (go_at_call 34; have _t := tok1; refine (HO.out _).mono ?_; rintro e w2 ⟨rfl, b2⟩; clear tok1 _t; have d2 := d1.trans (b2.mono d1.size))
    | (go_at_call 33; have _t := tok2; refine (HEE.out _).mono ?_; clear tok2 _t; rintro e w9 ⟨A3, k3, rfl, h3, b3⟩; have d9 := d2.trans (b3.mono d2.size); have hx9 := HX.out.below d9; clear b1 b2 b3 h3 d1 d2 z0 z1 z2 z3 z4 z5 z6)
    | (go_at_call 36; go_loud (refine (lent36_o tail tail.length rfl A k _ w9 hx9 (by omega)).mono ?_); rintro e w10 ⟨g10, k10, rfl, h10, hk10, b10⟩; have d10 := d9.trans (b10.mono d9.size))
    | (go_at_call 37; go_loud (refine (HT.out _ k10 (by intro h; cases h) hk10 w10 h10.rd (by omega)).mono ?_); rintro e w11 ⟨b11, rfl⟩; unfold msgV mOr; simp only [Option.getD]; have d11 := d10.trans (b11.mono d10.size))
    | (go_at_call 33; go_loud (refine (HE2.out _).mono ?_); rintro e w12 ⟨A12, k12, rfl, h12, b12⟩; go_loud (rw [HL2.out] at h12 ⊢; obtain ⟨hz12, d112, s12⟩ := box1_at (k := 0) b12; have d12 := d11.trans (d112.mono d11.size); have r0 : w12.cell? ⟨w11.heap.size, 0, none⟩ = some (.int .i64 m2.kind) := cellAt hz12 (j := 0) rfl; have r1 : w12.cell? ⟨w11.heap.size, 1, none⟩ = some (.string m2.name) := cellAt hz12 (j := 1) rfl; have r2 : w12.cell? ⟨w11.heap.size, 2, none⟩ = some (.int .i64 m2.version) := cellAt hz12 (j := 2) rfl; have r3 : w12.cell? ⟨w11.heap.size, 3, none⟩ = some (.int .i64 m2.frm) := cellAt hz12 (j := 3) rfl; have r4 : w12.cell? ⟨w11.heap.size, 4, none⟩ = some (.int .i64 m2.nonce) := cellAt hz12 (j := 4) rfl; have r5 : w12.cell? ⟨w11.heap.size, 5, none⟩ = some (.int .i64 m2.err) := cellAt hz12 (j := 5) rfl; have r6 : w12.cell? ⟨w11.heap.size, 6, none⟩ = some (.string m2.text) := cellAt hz12 (j := 6) rfl; have HCV := Lib.hid (fun (W : World) (hW : Below w12.heap.size w12 W) => And.intro (conv_any (h12.below hW (Nat.le_refl _)).rd n2 HL2.out.symm k12) (conv_any (w := W) (B := w.heap.size) (xs := F2) (by have h := (HX.out.below (d12.trans (hW.mono d12.size))).take n2; rw [show (bv tail).take n2 = bv (tail.take n2) by simp [bv, List.map_take], HTK.out] at h; exact h) n2 HL2.out.symm k)); have HZ12 := Lib.hid hz12; clear hz12 b12))
    | fail)
  have k1 := (HCV.out w12.drew ((Below.refl w12.heap.size w12).drew)).1
  have k2 := (HCV.out w12.drew ((Below.refl w12.heap.size w12).drew)).2
  go_region_held3 (fun w' => w'.cell? ⟨w11.heap.size, 0, none⟩ = some (.int .i64 m2.kind) ∧ w'.cell? ⟨w11.heap.size, 1, none⟩ = some (.string m2.name) ∧ w'.cell? ⟨w11.heap.size, 2, none⟩ = some (.int .i64 m2.version) ∧ w'.cell? ⟨w11.heap.size, 3, none⟩ = some (.int .i64 m2.frm) ∧ w'.cell? ⟨w11.heap.size, 4, none⟩ = some (.int .i64 m2.nonce) ∧ w'.cell? ⟨w11.heap.size, 5, none⟩ = some (.int .i64 m2.err) ∧ w'.cell? ⟨w11.heap.size, 6, none⟩ = some (.string m2.text) ∧ (convert 22 9 (.slice A12 n2 k12)).run Try.prog w' = .ok (.string (str F2)) w' ∧ (convert 22 9 (.slice A n2 k)).run Try.prog w' = .ok (.string (str F2)) w')
    (first
      | go_keep
      | exact ⟨r0, r1, r2, r3, r4, r5, r6, (HCV.out _ (Below.refl _ _)).1, (HCV.out _ (Below.refl _ _)).2⟩
      | exact ⟨r0, r1, r2, r3, r4, r5, r6, k1, k2⟩
      | (go_split_ands; refine ⟨?_, ?_, ?_, ?_, ?_, ?_, ?_, k1, k2⟩; all_goals simp [*])
      | exact ⟨cellAt hz13 (j := 0) rfl, cellAt hz13 (j := 1) rfl, cellAt hz13 (j := 2) rfl, cellAt hz13 (j := 3) rfl, cellAt hz13 (j := 4) rfl, cellAt hz13 (j := 5) rfl, cellAt hz13 (j := 6) rfl, (HCV.out _ d1213).1, (HCV.out _ d1213).2⟩)
    ((go_at_call 48; go_loud (refine (HPM.out _).mono ?_); rintro e w13 ⟨rfl, b13⟩; go_loud (unfold msgV; have d1213 : Below w12.heap.size w12 w13 := ((Below.refl w12.heap.size w12).drew).trans b13; have hz13 := (d1213.block w11.heap.size (by omega)).trans HZ12.out)))
  go_wp2
  go_ret
  exact ⟨rfl, d12.trans (((Below.refl w12.heap.size w12).drew.trans b13).mono d12.size)⟩

set_option maxRecDepth 100000 in
set_option maxHeartbeats 2000000 in
theorem fb_none_bad (kd : Int) (nm : ByteArray) (ve fr no er : Int) (tx : ByteArray) (m : Msg) (hme : m = ⟨kd, nm, ve, fr, no, er, tx⟩) (hp : payM m = none) (tail : List UInt8) (A : Option Addr) (k : Nat) (cut : Int) (w : World) (hx : Rd w w.heap.size A (bv tail)) (hl : tail.length ≤ 140737488351232) (E : Int) (hT : decT tail = (none, 0, E)) (hE : (E == 0) = false) :
    Calls Try.prog 13 #[.agg #[.int .i64 kd, .string nm, .int .i64 ve, .int .i64 fr, .int .i64 no, .int .i64 er, .string tx], .slice A tail.length k, .int .i64 cut] w fun e w' => e = .returned (.bool true) ∧ Below w.heap.size w w' := by
  have HT := Lib.hid (dec37 hT tail.length rfl)
  clear hT
  have HE := fun W => enc_m hp W
  simp only [show encF none = [] from rfl, show encE none = 2 from rfl] at HE
  subst hme
  unfold msgV at HE
  have HEE := Lib.hid HE
  have HO := Lib.hid (fun W => own_any kd nm tx ve fr no er W)
  clear HE hp
  have HX := Lib.hid hx
  clear hx
  have tok1 : True := trivial
  have tok2 : True := trivial
  go_enter Try.func13, Try.ntmps13
  go_wp2_with (first
    | (go_at_call 46; refine (awake46_any _).mono ?_; rintro e w1 ⟨rfl, b1⟩; obtain ⟨hz1, d1, s1⟩ := box1_at (k := 0) b1; have z0 : w1.cell? ⟨w.heap.size, 0, none⟩ = some (.int .i64 kd) := cellAt hz1 (j := 0) rfl; have z1 : w1.cell? ⟨w.heap.size, 1, none⟩ = some (.string nm) := cellAt hz1 (j := 1) rfl; have z2 : w1.cell? ⟨w.heap.size, 2, none⟩ = some (.int .i64 ve) := cellAt hz1 (j := 2) rfl; have z3 : w1.cell? ⟨w.heap.size, 3, none⟩ = some (.int .i64 fr) := cellAt hz1 (j := 3) rfl; have z4 : w1.cell? ⟨w.heap.size, 4, none⟩ = some (.int .i64 no) := cellAt hz1 (j := 4) rfl; have z5 : w1.cell? ⟨w.heap.size, 5, none⟩ = some (.int .i64 er) := cellAt hz1 (j := 5) rfl; have z6 : w1.cell? ⟨w.heap.size, 6, none⟩ = some (.string tx) := cellAt hz1 (j := 6) rfl; clear hz1)
    | (go_at_call 34; have _t := tok1; refine (HO.out _).mono ?_; rintro e w2 ⟨rfl, b2⟩; clear tok1 _t; have d2 := d1.trans (b2.mono d1.size))
    | (go_at_call 33; have _t := tok2; refine (HEE.out _).mono ?_; clear tok2 _t; rintro e w9 ⟨A3, k3, rfl, h3, b3⟩; have d9 := d2.trans (b3.mono d2.size); have hx9 := HX.out.below d9; clear b1 b2 b3 h3 d1 d2 z0 z1 z2 z3 z4 z5 z6)
    | (go_at_call 36; go_loud (refine (lent36_o tail tail.length rfl A k _ w9 hx9 (by omega)).mono ?_); rintro e w10 ⟨g10, k10, rfl, h10, hk10, b10⟩; have d10 := d9.trans (b10.mono d9.size))
    | (go_at_call 37; go_loud (refine (HT.out _ k10 (by intro h; cases h) hk10 w10 h10.rd (by omega)).mono ?_); rintro e w11 ⟨b11, rfl⟩; unfold msgV mOr; simp only [Option.getD]; have d11 := d10.trans (b11.mono d10.size))
    | fail)
  go_ret
  exact ⟨rfl, d11.alloc d11.size _⟩

theorem framesBack_any (kd : Int) (nm : ByteArray) (ve fr no er : Int) (tx : ByteArray) (tail : List UInt8) (A : Option Addr) (k : Nat) (cut : Int) (w : World) (hx : Rd w w.heap.size A (bv tail)) (hl : tail.length ≤ 140737488351232) (hk : tail.length ≤ k) :
    Calls Try.prog 13 #[.agg #[.int .i64 kd, .string nm, .int .i64 ve, .int .i64 fr, .int .i64 no, .int .i64 er, .string tx], .slice A tail.length k, .int .i64 cut] w fun e w' => e = .returned (.bool true) ∧ Below w.heap.size w w' := by
  cases hp : payM ⟨kd, nm, ve, fr, no, er, tx⟩ with
  | none =>
    rcases dec_cases tail with ⟨E, hT, hE⟩ | ⟨m2, p2, hT, hq, hpm, hle, htk, hp2⟩
    · exact fb_none_bad kd nm ve fr no er tx _ rfl hp tail A k cut w hx hl E hT hE
    · exact fb_none_good kd nm ve fr no er tx _ rfl hp tail A k cut w hx hl (8 + p2.length) m2 (frame p2) hT (fun W => enc_m hq W) hpm (frame_len p2) hle htk hk
  | some p =>
    rcases dec_cases tail with ⟨E, hT, hE⟩ | ⟨m2, p2, hT, hq, hpm, hle, htk, hp2⟩
    · exact fb_some_bad kd nm ve fr no er tx _ rfl p hp tail A k cut w hx hl E hT hE
    · exact fb_some_good kd nm ve fr no er tx _ rfl p hp tail A k cut w hx hl (8 + p2.length) m2 (frame p2) hT (fun W => enc_m hq W) hpm (frame_len p2) hle htk hk

end Go.Proofs.Ytbhjcfhpabnadaa
