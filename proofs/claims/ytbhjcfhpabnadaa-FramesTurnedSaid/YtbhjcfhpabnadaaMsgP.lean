/-
  The walk of frames.message, way by way. (Printed by wip/mkmsg.py.)
-/
import Derived.Test.YtbhjcfhpabnadaaMsgW
import Derived.Deep.DeepCutAuto
namespace Go.Proofs.Ytbhjcfhpabnadaa
open Go.RowKit

attribute [local go_sem] drewN_setCell drewN_alloc World.drewN_drewN

set_option maxRecDepth 100000 in
set_option maxHeartbeats 2000000 in
theorem m_e0 (b : List UInt8) (n : Nat) (hn : n = b.length) (A : Option Addr) (c : Nat) (hc : n ≤ c) (B : Nat) (w : World) (hr : Rd w B A (bv b)) (hB : B ≤ w.heap.size) (hl : n ≤ 16777216) (hf : n < 1) :
    Calls Try.prog 62 #[.slice A n c] w (MsgOut w none) := by
  have C0 := Lib.hid (fun (W : World) (hb : Below B w W) => cut_noB b n hn 1 1 rfl (by omega) hf A c hc B w W hr hb (Nat.le_trans hl (by decide)))
  have HB := Lib.hid (two_box w B hB)
  have HB0 := Lib.hid (two_box w _ (Nat.le_refl _))
  have t0 : True := trivial
  clear hn hf hr
  go_enter Try.func62, Try.ntmps62
  go_wp2
  refine wp_scope_fwd 0 rfl ?_
  go_wp2_with (first
    | (go_at_call 61; have _t := t0; (refine (C0.out _ (HB.out _ _ 0)).mono ?_); rintro e w1 ⟨k1, rfl, rfl⟩; clear t0 _t)
    | fail)
  go_step3
  refine ⟨rfl, ?_⟩
  go_wp2
  rw [jump_ret]
  refine bodyPost_ret (v := .tuple #[zMsg, .bool false]) (by simp [results, Try.results62, go_sem, zMsg]) rfl ⟨?_, rfl⟩
  exact HB0.out _ _ _

set_option maxRecDepth 100000 in
set_option maxHeartbeats 2000000 in
theorem m_3_a (b : List UInt8) (n : Nat) (hn : n = b.length) (A : Option Addr) (c : Nat) (hA : A = none → c = 0) (hc : n ≤ c) (B : Nat) (w : World) (hr : Rd w B A (bv b)) (hB : B ≤ w.heap.size) (hl : n ≤ 16777216) (b1 : List UInt8) (n1 : Nat) (hn1 : n1 = b1.length) (hs0 : n = 1 + n1) (hV0 : 3 = IntKind.i64.wrap (be (b.take 1))) (hd0 : b1 = b.drop 1) (hf : n1 < 8) :
    Calls Try.prog 62 #[.slice A n c] w (MsgOut w none) := by
  have C0 := Lib.hid (fun (W : World) (hb : Below B w W) => cut_okB b n hn 1 1 rfl (by omega) n1 hs0 3 hV0 A c hA hc B w W hr hb (Nat.le_trans hl (by decide)))
  rw [← hd0] at C0
  have C1 := Lib.hid (fun (S : Option Addr) (c' : Nat) (hc' : n1 ≤ c') (h : Rd w B S (bv b1)) (W : World) (hb : Below B w W) => cut_noB b1 n1 hn1 8 8 rfl (by omega) hf S c' hc' B w W h hb (by omega))
  have HB := Lib.hid (two_box w B hB)
  have HB0 := Lib.hid (two_box w _ (Nat.le_refl _))
  have t0 : True := trivial
  have t1 : True := trivial
  clear hn hn1 hs0 hV0 hd0 hf hr
  go_enter Try.func62, Try.ntmps62
  go_wp2
  refine wp_scope_fwd 0 rfl ?_
  go_wp2_with (first
    | (go_at_call 61; have _t := t0; (refine (C0.out _ (HB.out _ _ 0)).mono ?_); rintro e w1 ⟨k1, S1, c1, rfl, rfl, r1, n1', m1'⟩; clear t0 _t)
    | (go_at_call 61; have _t := t1; (refine (C1.out S1 c1 m1' r1 _ (HB.out _ _ _)).mono ?_); rintro e w2 ⟨k2, rfl, rfl⟩; clear t1 _t)
    | fail)
  go_step3
  refine ⟨rfl, ?_⟩
  go_wp2
  rw [jump_ret]
  refine bodyPost_ret (v := .tuple #[zMsg, .bool false]) (by simp [results, Try.results62, go_sem, zMsg]) rfl ⟨?_, rfl⟩
  exact HB0.out _ _ _

set_option maxRecDepth 100000 in
set_option maxHeartbeats 2000000 in
theorem m_3_b (b : List UInt8) (n : Nat) (hn : n = b.length) (A : Option Addr) (c : Nat) (hA : A = none → c = 0) (hc : n ≤ c) (B : Nat) (w : World) (hr : Rd w B A (bv b)) (hB : B ≤ w.heap.size) (hl : n ≤ 16777216) (b1 : List UInt8) (n1 : Nat) (hn1 : n1 = b1.length) (hs0 : n = 1 + n1) (hV0 : 3 = IntKind.i64.wrap (be (b.take 1))) (hd0 : b1 = b.drop 1) (v1 : Int) (b2 : List UInt8) (n2 : Nat) (hn2 : n2 = b2.length) (hs1 : n1 = 8 + n2) (hV1 : v1 = IntKind.i64.wrap (be (b1.take 8))) (hd1 : b2 = b1.drop 8) (hf : n2 < 8) :
    Calls Try.prog 62 #[.slice A n c] w (MsgOut w none) := by
  have C0 := Lib.hid (fun (W : World) (hb : Below B w W) => cut_okB b n hn 1 1 rfl (by omega) n1 hs0 3 hV0 A c hA hc B w W hr hb (Nat.le_trans hl (by decide)))
  rw [← hd0] at C0
  have C1 := Lib.hid (fun (S : Option Addr) (c' : Nat) (hS : S = none → c' = 0) (hc' : n1 ≤ c') (h : Rd w B S (bv b1)) (W : World) (hb : Below B w W) => cut_okB b1 n1 hn1 8 8 rfl (by omega) n2 hs1 v1 hV1 S c' hS hc' B w W h hb (by omega))
  rw [← hd1] at C1
  have C2 := Lib.hid (fun (S : Option Addr) (c' : Nat) (hc' : n2 ≤ c') (h : Rd w B S (bv b2)) (W : World) (hb : Below B w W) => cut_noB b2 n2 hn2 8 8 rfl (by omega) hf S c' hc' B w W h hb (by omega))
  have HB := Lib.hid (two_box w B hB)
  have HB0 := Lib.hid (two_box w _ (Nat.le_refl _))
  have t0 : True := trivial
  have t1 : True := trivial
  have t2 : True := trivial
  clear hn hn1 hs0 hV0 hd0 hn2 hs1 hV1 hd1 hf hr
  go_enter Try.func62, Try.ntmps62
  go_wp2
  refine wp_scope_fwd 0 rfl ?_
  go_wp2_with (first
    | (go_at_call 61; have _t := t0; (refine (C0.out _ (HB.out _ _ 0)).mono ?_); rintro e w1 ⟨k1, S1, c1, rfl, rfl, r1, n1', m1'⟩; clear t0 _t)
    | (go_at_call 61; have _t := t1; (refine (C1.out S1 c1 n1' m1' r1 _ (HB.out _ _ _)).mono ?_); rintro e w2 ⟨k2, S2, c2, rfl, rfl, r2, n2', m2'⟩; clear t1 _t)
    | (go_at_call 61; have _t := t2; (refine (C2.out S2 c2 m2' r2 _ (HB.out _ _ _)).mono ?_); rintro e w3 ⟨k3, rfl, rfl⟩; clear t2 _t)
    | fail)
  go_step3
  refine ⟨rfl, ?_⟩
  go_wp2
  rw [jump_ret]
  refine bodyPost_ret (v := .tuple #[zMsg, .bool false]) (by simp [results, Try.results62, go_sem, zMsg]) rfl ⟨?_, rfl⟩
  exact HB0.out _ _ _

set_option maxRecDepth 100000 in
set_option maxHeartbeats 2000000 in
theorem m_3_n (b : List UInt8) (n : Nat) (hn : n = b.length) (A : Option Addr) (c : Nat) (hA : A = none → c = 0) (hc : n ≤ c) (B : Nat) (w : World) (hr : Rd w B A (bv b)) (hB : B ≤ w.heap.size) (hl : n ≤ 16777216) (b1 : List UInt8) (n1 : Nat) (hn1 : n1 = b1.length) (hs0 : n = 1 + n1) (hV0 : 3 = IntKind.i64.wrap (be (b.take 1))) (hd0 : b1 = b.drop 1) (v1 : Int) (b2 : List UInt8) (n2 : Nat) (hn2 : n2 = b2.length) (hs1 : n1 = 8 + n2) (hV1 : v1 = IntKind.i64.wrap (be (b1.take 8))) (hd1 : b2 = b1.drop 8) (v2 : Int) (b3 : List UInt8) (n3 : Nat) (hn3 : n3 = b3.length) (hs2 : n2 = 8 + n3) (hV2 : v2 = IntKind.i64.wrap (be (b2.take 8))) (hd2 : b3 = b2.drop 8) (hq : paySpec 3 ⟨#[]⟩ ⟨#[]⟩ v2 0 v1 0 = none) :
    Calls Try.prog 62 #[.slice A n c] w (MsgOut w none) := by
  have C0 := Lib.hid (fun (W : World) (hb : Below B w W) => cut_okB b n hn 1 1 rfl (by omega) n1 hs0 3 hV0 A c hA hc B w W hr hb (Nat.le_trans hl (by decide)))
  rw [← hd0] at C0
  have C1 := Lib.hid (fun (S : Option Addr) (c' : Nat) (hS : S = none → c' = 0) (hc' : n1 ≤ c') (h : Rd w B S (bv b1)) (W : World) (hb : Below B w W) => cut_okB b1 n1 hn1 8 8 rfl (by omega) n2 hs1 v1 hV1 S c' hS hc' B w W h hb (by omega))
  rw [← hd1] at C1
  have C2 := Lib.hid (fun (S : Option Addr) (c' : Nat) (hS : S = none → c' = 0) (hc' : n2 ≤ c') (h : Rd w B S (bv b2)) (W : World) (hb : Below B w W) => cut_okB b2 n2 hn2 8 8 rfl (by omega) n3 hs2 v2 hV2 S c' hS hc' B w W h hb (by omega))
  rw [← hd2] at C2
  have CP := Lib.hid (fun (W : World) => payload_any 3 ⟨#[]⟩ ⟨#[]⟩ v2 0 v1 0 W)
  rw [hq] at CP
  have HB := Lib.hid (two_box w B hB)
  have HB0 := Lib.hid (two_box w _ (Nat.le_refl _))
  have t0 : True := trivial
  have t1 : True := trivial
  have t2 : True := trivial
  clear hn hn1 hs0 hV0 hd0 hn2 hs1 hV1 hd1 hn3 hs2 hV2 hd2 hq hr
  go_enter Try.func62, Try.ntmps62
  go_wp2
  refine wp_scope_fwd 0 rfl ?_
  go_wp2_with (first
    | (go_at_call 61; have _t := t0; (refine (C0.out _ (HB.out _ _ 0)).mono ?_); rintro e w1 ⟨k1, S1, c1, rfl, rfl, r1, n1', m1'⟩; clear t0 _t)
    | (go_at_call 61; have _t := t1; (refine (C1.out S1 c1 n1' m1' r1 _ (HB.out _ _ _)).mono ?_); rintro e w2 ⟨k2, S2, c2, rfl, rfl, r2, n2', m2'⟩; clear t1 _t)
    | (go_at_call 61; have _t := t2; (refine (C2.out S2 c2 n2' m2' r2 _ (HB.out _ _ _)).mono ?_); rintro e w3 ⟨k3, S3, c3, rfl, rfl, r3, n3', m3'⟩; clear t2 _t)
    | (go_at_call 59; (refine (CP.out _).mono ?_); rintro e w9 ⟨b9, v9, rfl⟩; obtain ⟨hz9, hm9, hbw⟩ := boxes_at b9; have m0x := cellAt hm9 (j := 0) rfl; have m1x := cellAt hm9 (j := 1) rfl; have m2x := cellAt hm9 (j := 2) rfl; have m3x := cellAt hm9 (j := 3) rfl; have m4x := cellAt hm9 (j := 4) rfl; have m5x := cellAt hm9 (j := 5) rfl; have m6x := cellAt hm9 (j := 6) rfl; have z0 := cellAt hz9 (j := 0) rfl; have f0 := frozenAt hz9 (j := 0); have z1 := cellAt hz9 (j := 1) rfl; have f1 := frozenAt hz9 (j := 1); have z2 := cellAt hz9 (j := 2) rfl; have f2 := frozenAt hz9 (j := 2); have z3 := cellAt hz9 (j := 3) rfl; have f3 := frozenAt hz9 (j := 3); have z4 := cellAt hz9 (j := 4) rfl; have f4 := frozenAt hz9 (j := 4); have z5 := cellAt hz9 (j := 5) rfl; have f5 := frozenAt hz9 (j := 5); have z6 := cellAt hz9 (j := 6) rfl; have f6 := frozenAt hz9 (j := 6); clear b9 hz9 hm9)
    | fail)
  go_step3
  go_wp2
  rw [jump_ret]
  refine bodyPost_ret (v := .tuple #[zMsg, .bool false]) (by simp [results, Try.results62, go_sem, zMsg, z0, z1, z2, z3, z4, z5, z6]) rfl ⟨?_, rfl⟩
  exact ((((((hbw.setCell (p := ⟨w.heap.size, 0, none⟩) (Nat.le_refl _) _).setCell (p := ⟨w.heap.size, 1, none⟩) (Nat.le_refl _) _).setCell (p := ⟨w.heap.size, 2, none⟩) (Nat.le_refl _) _).setCell (p := ⟨w.heap.size, 3, none⟩) (Nat.le_refl _) _).setCell (p := ⟨w.heap.size, 4, none⟩) (Nat.le_refl _) _).setCell (p := ⟨w.heap.size, 5, none⟩) (Nat.le_refl _) _).setCell (p := ⟨w.heap.size, 6, none⟩) (Nat.le_refl _) _

set_option maxRecDepth 100000 in
set_option maxHeartbeats 2000000 in
theorem m_3_m (b : List UInt8) (n : Nat) (hn : n = b.length) (A : Option Addr) (c : Nat) (hA : A = none → c = 0) (hc : n ≤ c) (B : Nat) (w : World) (hr : Rd w B A (bv b)) (hB : B ≤ w.heap.size) (hl : n ≤ 16777216) (b1 : List UInt8) (n1 : Nat) (hn1 : n1 = b1.length) (hs0 : n = 1 + n1) (hV0 : 3 = IntKind.i64.wrap (be (b.take 1))) (hd0 : b1 = b.drop 1) (v1 : Int) (b2 : List UInt8) (n2 : Nat) (hn2 : n2 = b2.length) (hs1 : n1 = 8 + n2) (hV1 : v1 = IntKind.i64.wrap (be (b1.take 8))) (hd1 : b2 = b1.drop 8) (v2 : Int) (b3 : List UInt8) (n3 : Nat) (hn3 : n3 = b3.length) (hs2 : n2 = 8 + n3) (hV2 : v2 = IntKind.i64.wrap (be (b2.take 8))) (hd2 : b3 = b2.drop 8) (q : List UInt8) (hq : paySpec 3 ⟨#[]⟩ ⟨#[]⟩ v2 0 v1 0 = some q) (hz : 0 < n3) :
    Calls Try.prog 62 #[.slice A n c] w (MsgOut w none) := by
  have C0 := Lib.hid (fun (W : World) (hb : Below B w W) => cut_okB b n hn 1 1 rfl (by omega) n1 hs0 3 hV0 A c hA hc B w W hr hb (Nat.le_trans hl (by decide)))
  rw [← hd0] at C0
  have C1 := Lib.hid (fun (S : Option Addr) (c' : Nat) (hS : S = none → c' = 0) (hc' : n1 ≤ c') (h : Rd w B S (bv b1)) (W : World) (hb : Below B w W) => cut_okB b1 n1 hn1 8 8 rfl (by omega) n2 hs1 v1 hV1 S c' hS hc' B w W h hb (by omega))
  rw [← hd1] at C1
  have C2 := Lib.hid (fun (S : Option Addr) (c' : Nat) (hS : S = none → c' = 0) (hc' : n2 ≤ c') (h : Rd w B S (bv b2)) (W : World) (hb : Below B w W) => cut_okB b2 n2 hn2 8 8 rfl (by omega) n3 hs2 v2 hV2 S c' hS hc' B w W h hb (by omega))
  rw [← hd2] at C2
  have CP := Lib.hid (fun (W : World) => payload_any 3 ⟨#[]⟩ ⟨#[]⟩ v2 0 v1 0 W)
  rw [hq] at CP
  have HB := Lib.hid (two_box w B hB)
  have HB0 := Lib.hid (two_box w _ (Nat.le_refl _))
  have t0 : True := trivial
  have t1 : True := trivial
  have t2 : True := trivial
  clear hn hn1 hs0 hV0 hd0 hn2 hs1 hV1 hd1 hn3 hs2 hV2 hd2 hq hr
  go_enter Try.func62, Try.ntmps62
  go_wp2
  refine wp_scope_fwd 0 rfl ?_
  go_wp2_with (first
    | (go_at_call 61; have _t := t0; (refine (C0.out _ (HB.out _ _ 0)).mono ?_); rintro e w1 ⟨k1, S1, c1, rfl, rfl, r1, n1', m1'⟩; clear t0 _t)
    | (go_at_call 61; have _t := t1; (refine (C1.out S1 c1 n1' m1' r1 _ (HB.out _ _ _)).mono ?_); rintro e w2 ⟨k2, S2, c2, rfl, rfl, r2, n2', m2'⟩; clear t1 _t)
    | (go_at_call 61; have _t := t2; (refine (C2.out S2 c2 n2' m2' r2 _ (HB.out _ _ _)).mono ?_); rintro e w3 ⟨k3, S3, c3, rfl, rfl, r3, n3', m3'⟩; clear t2 _t)
    | (go_at_call 59; (refine (CP.out _).mono ?_); rintro e w9 ⟨b9, A9, c9, rfl, h9⟩; obtain ⟨hz9, hm9, hbw⟩ := boxes_at b9; have m0x := cellAt hm9 (j := 0) rfl; have m1x := cellAt hm9 (j := 1) rfl; have m2x := cellAt hm9 (j := 2) rfl; have m3x := cellAt hm9 (j := 3) rfl; have m4x := cellAt hm9 (j := 4) rfl; have m5x := cellAt hm9 (j := 5) rfl; have m6x := cellAt hm9 (j := 6) rfl; have z0 := cellAt hz9 (j := 0) rfl; have f0 := frozenAt hz9 (j := 0); have z1 := cellAt hz9 (j := 1) rfl; have f1 := frozenAt hz9 (j := 1); have z2 := cellAt hz9 (j := 2) rfl; have f2 := frozenAt hz9 (j := 2); have z3 := cellAt hz9 (j := 3) rfl; have f3 := frozenAt hz9 (j := 3); have z4 := cellAt hz9 (j := 4) rfl; have f4 := frozenAt hz9 (j := 4); have z5 := cellAt hz9 (j := 5) rfl; have f5 := frozenAt hz9 (j := 5); have z6 := cellAt hz9 (j := 6) rfl; have f6 := frozenAt hz9 (j := 6); clear b9 hz9 hm9)
    | fail)
  go_step3
  go_wp2
  rw [jump_ret]
  refine bodyPost_ret (v := .tuple #[zMsg, .bool false]) (by simp [results, Try.results62, go_sem, zMsg, z0, z1, z2, z3, z4, z5, z6]) rfl ⟨?_, rfl⟩
  exact ((((((hbw.setCell (p := ⟨w.heap.size, 0, none⟩) (Nat.le_refl _) _).setCell (p := ⟨w.heap.size, 1, none⟩) (Nat.le_refl _) _).setCell (p := ⟨w.heap.size, 2, none⟩) (Nat.le_refl _) _).setCell (p := ⟨w.heap.size, 3, none⟩) (Nat.le_refl _) _).setCell (p := ⟨w.heap.size, 4, none⟩) (Nat.le_refl _) _).setCell (p := ⟨w.heap.size, 5, none⟩) (Nat.le_refl _) _).setCell (p := ⟨w.heap.size, 6, none⟩) (Nat.le_refl _) _

set_option maxRecDepth 100000 in
set_option maxHeartbeats 2000000 in
theorem m_3_g (b : List UInt8) (n : Nat) (hn : n = b.length) (A : Option Addr) (c : Nat) (hA : A = none → c = 0) (hc : n ≤ c) (B : Nat) (w : World) (hr : Rd w B A (bv b)) (hB : B ≤ w.heap.size) (hl : n ≤ 16777216) (b1 : List UInt8) (n1 : Nat) (hn1 : n1 = b1.length) (hs0 : n = 1 + n1) (hV0 : 3 = IntKind.i64.wrap (be (b.take 1))) (hd0 : b1 = b.drop 1) (v1 : Int) (b2 : List UInt8) (n2 : Nat) (hn2 : n2 = b2.length) (hs1 : n1 = 8 + n2) (hV1 : v1 = IntKind.i64.wrap (be (b1.take 8))) (hd1 : b2 = b1.drop 8) (v2 : Int) (b3 : List UInt8) (n3 : Nat) (hn3 : n3 = b3.length) (hs2 : n2 = 8 + n3) (hV2 : v2 = IntKind.i64.wrap (be (b2.take 8))) (hd2 : b3 = b2.drop 8) (q : List UInt8) (hq : paySpec 3 ⟨#[]⟩ ⟨#[]⟩ v2 0 v1 0 = some q) (hz : n3 = 0) :
    Calls Try.prog 62 #[.slice A n c] w (MsgOut w (some ⟨3, ⟨#[]⟩, v2, 0, v1, 0, ⟨#[]⟩⟩)) := by
  have C0 := Lib.hid (fun (W : World) (hb : Below B w W) => cut_okB b n hn 1 1 rfl (by omega) n1 hs0 3 hV0 A c hA hc B w W hr hb (Nat.le_trans hl (by decide)))
  rw [← hd0] at C0
  have C1 := Lib.hid (fun (S : Option Addr) (c' : Nat) (hS : S = none → c' = 0) (hc' : n1 ≤ c') (h : Rd w B S (bv b1)) (W : World) (hb : Below B w W) => cut_okB b1 n1 hn1 8 8 rfl (by omega) n2 hs1 v1 hV1 S c' hS hc' B w W h hb (by omega))
  rw [← hd1] at C1
  have C2 := Lib.hid (fun (S : Option Addr) (c' : Nat) (hS : S = none → c' = 0) (hc' : n2 ≤ c') (h : Rd w B S (bv b2)) (W : World) (hb : Below B w W) => cut_okB b2 n2 hn2 8 8 rfl (by omega) n3 hs2 v2 hV2 S c' hS hc' B w W h hb (by omega))
  rw [← hd2] at C2
  have CP := Lib.hid (fun (W : World) => payload_any 3 ⟨#[]⟩ ⟨#[]⟩ v2 0 v1 0 W)
  rw [hq] at CP
  have HB := Lib.hid (two_box w B hB)
  have HB0 := Lib.hid (two_box w _ (Nat.le_refl _))
  have t0 : True := trivial
  have t1 : True := trivial
  have t2 : True := trivial
  obtain rfl := hz
  clear hn hn1 hs0 hV0 hd0 hn2 hs1 hV1 hd1 hn3 hs2 hV2 hd2 hq hr
  go_enter Try.func62, Try.ntmps62
  go_wp2
  refine wp_scope_fwd 0 rfl ?_
  go_wp2_with (first
    | (go_at_call 61; have _t := t0; (refine (C0.out _ (HB.out _ _ 0)).mono ?_); rintro e w1 ⟨k1, S1, c1, rfl, rfl, r1, n1', m1'⟩; clear t0 _t)
    | (go_at_call 61; have _t := t1; (refine (C1.out S1 c1 n1' m1' r1 _ (HB.out _ _ _)).mono ?_); rintro e w2 ⟨k2, S2, c2, rfl, rfl, r2, n2', m2'⟩; clear t1 _t)
    | (go_at_call 61; have _t := t2; (refine (C2.out S2 c2 n2' m2' r2 _ (HB.out _ _ _)).mono ?_); rintro e w3 ⟨k3, S3, c3, rfl, rfl, r3, n3', m3'⟩; clear t2 _t)
    | (go_at_call 59; (refine (CP.out _).mono ?_); rintro e w9 ⟨b9, A9, c9, rfl, h9⟩; obtain ⟨hz9, hm9, hbw⟩ := boxes_at b9; have m0x := cellAt hm9 (j := 0) rfl; have m1x := cellAt hm9 (j := 1) rfl; have m2x := cellAt hm9 (j := 2) rfl; have m3x := cellAt hm9 (j := 3) rfl; have m4x := cellAt hm9 (j := 4) rfl; have m5x := cellAt hm9 (j := 5) rfl; have m6x := cellAt hm9 (j := 6) rfl; have z0 := cellAt hz9 (j := 0) rfl; have f0 := frozenAt hz9 (j := 0); have z1 := cellAt hz9 (j := 1) rfl; have f1 := frozenAt hz9 (j := 1); have z2 := cellAt hz9 (j := 2) rfl; have f2 := frozenAt hz9 (j := 2); have z3 := cellAt hz9 (j := 3) rfl; have f3 := frozenAt hz9 (j := 3); have z4 := cellAt hz9 (j := 4) rfl; have f4 := frozenAt hz9 (j := 4); have z5 := cellAt hz9 (j := 5) rfl; have f5 := frozenAt hz9 (j := 5); have z6 := cellAt hz9 (j := 6) rfl; have f6 := frozenAt hz9 (j := 6); clear b9 hz9 hm9)
    | fail)
  rw [jump_ret]
  refine bodyPost_ret (v := .tuple #[msgV ⟨3, ⟨#[]⟩, v2, 0, v1, 0, ⟨#[]⟩⟩, .bool true]) (by simp [results, Try.results62, go_sem, msgV, z0, z1, z2, z3, z4, z5, z6]) rfl ⟨?_, rfl⟩
  exact ((((((hbw.setCell (p := ⟨w.heap.size, 0, none⟩) (Nat.le_refl _) _).setCell (p := ⟨w.heap.size, 1, none⟩) (Nat.le_refl _) _).setCell (p := ⟨w.heap.size, 2, none⟩) (Nat.le_refl _) _).setCell (p := ⟨w.heap.size, 3, none⟩) (Nat.le_refl _) _).setCell (p := ⟨w.heap.size, 4, none⟩) (Nat.le_refl _) _).setCell (p := ⟨w.heap.size, 5, none⟩) (Nat.le_refl _) _).setCell (p := ⟨w.heap.size, 6, none⟩) (Nat.le_refl _) _

set_option maxRecDepth 100000 in
set_option maxHeartbeats 2000000 in
theorem m_5_a (b : List UInt8) (n : Nat) (hn : n = b.length) (A : Option Addr) (c : Nat) (hA : A = none → c = 0) (hc : n ≤ c) (B : Nat) (w : World) (hr : Rd w B A (bv b)) (hB : B ≤ w.heap.size) (hl : n ≤ 16777216) (b1 : List UInt8) (n1 : Nat) (hn1 : n1 = b1.length) (hs0 : n = 1 + n1) (hV0 : 5 = IntKind.i64.wrap (be (b.take 1))) (hd0 : b1 = b.drop 1) (hf : n1 < 8) :
    Calls Try.prog 62 #[.slice A n c] w (MsgOut w none) := by
  have C0 := Lib.hid (fun (W : World) (hb : Below B w W) => cut_okB b n hn 1 1 rfl (by omega) n1 hs0 5 hV0 A c hA hc B w W hr hb (Nat.le_trans hl (by decide)))
  rw [← hd0] at C0
  have C1 := Lib.hid (fun (S : Option Addr) (c' : Nat) (hc' : n1 ≤ c') (h : Rd w B S (bv b1)) (W : World) (hb : Below B w W) => cut_noB b1 n1 hn1 8 8 rfl (by omega) hf S c' hc' B w W h hb (by omega))
  have HB := Lib.hid (two_box w B hB)
  have HB0 := Lib.hid (two_box w _ (Nat.le_refl _))
  have t0 : True := trivial
  have t1 : True := trivial
  clear hn hn1 hs0 hV0 hd0 hf hr
  go_enter Try.func62, Try.ntmps62
  go_wp2
  refine wp_scope_fwd 0 rfl ?_
  go_wp2_with (first
    | (go_at_call 61; have _t := t0; (refine (C0.out _ (HB.out _ _ 0)).mono ?_); rintro e w1 ⟨k1, S1, c1, rfl, rfl, r1, n1', m1'⟩; clear t0 _t)
    | (go_at_call 61; have _t := t1; (refine (C1.out S1 c1 m1' r1 _ (HB.out _ _ _)).mono ?_); rintro e w2 ⟨k2, rfl, rfl⟩; clear t1 _t)
    | fail)
  go_step3
  refine ⟨rfl, ?_⟩
  go_wp2
  rw [jump_ret]
  refine bodyPost_ret (v := .tuple #[zMsg, .bool false]) (by simp [results, Try.results62, go_sem, zMsg]) rfl ⟨?_, rfl⟩
  exact HB0.out _ _ _

set_option maxRecDepth 100000 in
set_option maxHeartbeats 2000000 in
theorem m_5_n (b : List UInt8) (n : Nat) (hn : n = b.length) (A : Option Addr) (c : Nat) (hA : A = none → c = 0) (hc : n ≤ c) (B : Nat) (w : World) (hr : Rd w B A (bv b)) (hB : B ≤ w.heap.size) (hl : n ≤ 16777216) (b1 : List UInt8) (n1 : Nat) (hn1 : n1 = b1.length) (hs0 : n = 1 + n1) (hV0 : 5 = IntKind.i64.wrap (be (b.take 1))) (hd0 : b1 = b.drop 1) (v1 : Int) (b2 : List UInt8) (n2 : Nat) (hn2 : n2 = b2.length) (hs1 : n1 = 8 + n2) (hV1 : v1 = IntKind.i64.wrap (be (b1.take 8))) (hd1 : b2 = b1.drop 8) (hq : paySpec 5 ⟨#[]⟩ ⟨#[]⟩ 0 0 v1 0 = none) :
    Calls Try.prog 62 #[.slice A n c] w (MsgOut w none) := by
  have C0 := Lib.hid (fun (W : World) (hb : Below B w W) => cut_okB b n hn 1 1 rfl (by omega) n1 hs0 5 hV0 A c hA hc B w W hr hb (Nat.le_trans hl (by decide)))
  rw [← hd0] at C0
  have C1 := Lib.hid (fun (S : Option Addr) (c' : Nat) (hS : S = none → c' = 0) (hc' : n1 ≤ c') (h : Rd w B S (bv b1)) (W : World) (hb : Below B w W) => cut_okB b1 n1 hn1 8 8 rfl (by omega) n2 hs1 v1 hV1 S c' hS hc' B w W h hb (by omega))
  rw [← hd1] at C1
  have CP := Lib.hid (fun (W : World) => payload_any 5 ⟨#[]⟩ ⟨#[]⟩ 0 0 v1 0 W)
  rw [hq] at CP
  have HB := Lib.hid (two_box w B hB)
  have HB0 := Lib.hid (two_box w _ (Nat.le_refl _))
  have t0 : True := trivial
  have t1 : True := trivial
  clear hn hn1 hs0 hV0 hd0 hn2 hs1 hV1 hd1 hq hr
  go_enter Try.func62, Try.ntmps62
  go_wp2
  refine wp_scope_fwd 0 rfl ?_
  go_wp2_with (first
    | (go_at_call 61; have _t := t0; (refine (C0.out _ (HB.out _ _ 0)).mono ?_); rintro e w1 ⟨k1, S1, c1, rfl, rfl, r1, n1', m1'⟩; clear t0 _t)
    | (go_at_call 61; have _t := t1; (refine (C1.out S1 c1 n1' m1' r1 _ (HB.out _ _ _)).mono ?_); rintro e w2 ⟨k2, S2, c2, rfl, rfl, r2, n2', m2'⟩; clear t1 _t)
    | (go_at_call 59; (refine (CP.out _).mono ?_); rintro e w9 ⟨b9, v9, rfl⟩; obtain ⟨hz9, hm9, hbw⟩ := boxes_at b9; have m0x := cellAt hm9 (j := 0) rfl; have m1x := cellAt hm9 (j := 1) rfl; have m2x := cellAt hm9 (j := 2) rfl; have m3x := cellAt hm9 (j := 3) rfl; have m4x := cellAt hm9 (j := 4) rfl; have m5x := cellAt hm9 (j := 5) rfl; have m6x := cellAt hm9 (j := 6) rfl; have z0 := cellAt hz9 (j := 0) rfl; have f0 := frozenAt hz9 (j := 0); have z1 := cellAt hz9 (j := 1) rfl; have f1 := frozenAt hz9 (j := 1); have z2 := cellAt hz9 (j := 2) rfl; have f2 := frozenAt hz9 (j := 2); have z3 := cellAt hz9 (j := 3) rfl; have f3 := frozenAt hz9 (j := 3); have z4 := cellAt hz9 (j := 4) rfl; have f4 := frozenAt hz9 (j := 4); have z5 := cellAt hz9 (j := 5) rfl; have f5 := frozenAt hz9 (j := 5); have z6 := cellAt hz9 (j := 6) rfl; have f6 := frozenAt hz9 (j := 6); clear b9 hz9 hm9)
    | fail)
  go_step3
  go_wp2
  rw [jump_ret]
  refine bodyPost_ret (v := .tuple #[zMsg, .bool false]) (by simp [results, Try.results62, go_sem, zMsg, z0, z1, z2, z3, z4, z5, z6]) rfl ⟨?_, rfl⟩
  exact ((((((hbw.setCell (p := ⟨w.heap.size, 0, none⟩) (Nat.le_refl _) _).setCell (p := ⟨w.heap.size, 1, none⟩) (Nat.le_refl _) _).setCell (p := ⟨w.heap.size, 2, none⟩) (Nat.le_refl _) _).setCell (p := ⟨w.heap.size, 3, none⟩) (Nat.le_refl _) _).setCell (p := ⟨w.heap.size, 4, none⟩) (Nat.le_refl _) _).setCell (p := ⟨w.heap.size, 5, none⟩) (Nat.le_refl _) _).setCell (p := ⟨w.heap.size, 6, none⟩) (Nat.le_refl _) _

set_option maxRecDepth 100000 in
set_option maxHeartbeats 2000000 in
theorem m_5_m (b : List UInt8) (n : Nat) (hn : n = b.length) (A : Option Addr) (c : Nat) (hA : A = none → c = 0) (hc : n ≤ c) (B : Nat) (w : World) (hr : Rd w B A (bv b)) (hB : B ≤ w.heap.size) (hl : n ≤ 16777216) (b1 : List UInt8) (n1 : Nat) (hn1 : n1 = b1.length) (hs0 : n = 1 + n1) (hV0 : 5 = IntKind.i64.wrap (be (b.take 1))) (hd0 : b1 = b.drop 1) (v1 : Int) (b2 : List UInt8) (n2 : Nat) (hn2 : n2 = b2.length) (hs1 : n1 = 8 + n2) (hV1 : v1 = IntKind.i64.wrap (be (b1.take 8))) (hd1 : b2 = b1.drop 8) (q : List UInt8) (hq : paySpec 5 ⟨#[]⟩ ⟨#[]⟩ 0 0 v1 0 = some q) (hz : 0 < n2) :
    Calls Try.prog 62 #[.slice A n c] w (MsgOut w none) := by
  have C0 := Lib.hid (fun (W : World) (hb : Below B w W) => cut_okB b n hn 1 1 rfl (by omega) n1 hs0 5 hV0 A c hA hc B w W hr hb (Nat.le_trans hl (by decide)))
  rw [← hd0] at C0
  have C1 := Lib.hid (fun (S : Option Addr) (c' : Nat) (hS : S = none → c' = 0) (hc' : n1 ≤ c') (h : Rd w B S (bv b1)) (W : World) (hb : Below B w W) => cut_okB b1 n1 hn1 8 8 rfl (by omega) n2 hs1 v1 hV1 S c' hS hc' B w W h hb (by omega))
  rw [← hd1] at C1
  have CP := Lib.hid (fun (W : World) => payload_any 5 ⟨#[]⟩ ⟨#[]⟩ 0 0 v1 0 W)
  rw [hq] at CP
  have HB := Lib.hid (two_box w B hB)
  have HB0 := Lib.hid (two_box w _ (Nat.le_refl _))
  have t0 : True := trivial
  have t1 : True := trivial
  clear hn hn1 hs0 hV0 hd0 hn2 hs1 hV1 hd1 hq hr
  go_enter Try.func62, Try.ntmps62
  go_wp2
  refine wp_scope_fwd 0 rfl ?_
  go_wp2_with (first
    | (go_at_call 61; have _t := t0; (refine (C0.out _ (HB.out _ _ 0)).mono ?_); rintro e w1 ⟨k1, S1, c1, rfl, rfl, r1, n1', m1'⟩; clear t0 _t)
    | (go_at_call 61; have _t := t1; (refine (C1.out S1 c1 n1' m1' r1 _ (HB.out _ _ _)).mono ?_); rintro e w2 ⟨k2, S2, c2, rfl, rfl, r2, n2', m2'⟩; clear t1 _t)
    | (go_at_call 59; (refine (CP.out _).mono ?_); rintro e w9 ⟨b9, A9, c9, rfl, h9⟩; obtain ⟨hz9, hm9, hbw⟩ := boxes_at b9; have m0x := cellAt hm9 (j := 0) rfl; have m1x := cellAt hm9 (j := 1) rfl; have m2x := cellAt hm9 (j := 2) rfl; have m3x := cellAt hm9 (j := 3) rfl; have m4x := cellAt hm9 (j := 4) rfl; have m5x := cellAt hm9 (j := 5) rfl; have m6x := cellAt hm9 (j := 6) rfl; have z0 := cellAt hz9 (j := 0) rfl; have f0 := frozenAt hz9 (j := 0); have z1 := cellAt hz9 (j := 1) rfl; have f1 := frozenAt hz9 (j := 1); have z2 := cellAt hz9 (j := 2) rfl; have f2 := frozenAt hz9 (j := 2); have z3 := cellAt hz9 (j := 3) rfl; have f3 := frozenAt hz9 (j := 3); have z4 := cellAt hz9 (j := 4) rfl; have f4 := frozenAt hz9 (j := 4); have z5 := cellAt hz9 (j := 5) rfl; have f5 := frozenAt hz9 (j := 5); have z6 := cellAt hz9 (j := 6) rfl; have f6 := frozenAt hz9 (j := 6); clear b9 hz9 hm9)
    | fail)
  go_step3
  go_wp2
  rw [jump_ret]
  refine bodyPost_ret (v := .tuple #[zMsg, .bool false]) (by simp [results, Try.results62, go_sem, zMsg, z0, z1, z2, z3, z4, z5, z6]) rfl ⟨?_, rfl⟩
  exact ((((((hbw.setCell (p := ⟨w.heap.size, 0, none⟩) (Nat.le_refl _) _).setCell (p := ⟨w.heap.size, 1, none⟩) (Nat.le_refl _) _).setCell (p := ⟨w.heap.size, 2, none⟩) (Nat.le_refl _) _).setCell (p := ⟨w.heap.size, 3, none⟩) (Nat.le_refl _) _).setCell (p := ⟨w.heap.size, 4, none⟩) (Nat.le_refl _) _).setCell (p := ⟨w.heap.size, 5, none⟩) (Nat.le_refl _) _).setCell (p := ⟨w.heap.size, 6, none⟩) (Nat.le_refl _) _

set_option maxRecDepth 100000 in
set_option maxHeartbeats 2000000 in
theorem m_5_g (b : List UInt8) (n : Nat) (hn : n = b.length) (A : Option Addr) (c : Nat) (hA : A = none → c = 0) (hc : n ≤ c) (B : Nat) (w : World) (hr : Rd w B A (bv b)) (hB : B ≤ w.heap.size) (hl : n ≤ 16777216) (b1 : List UInt8) (n1 : Nat) (hn1 : n1 = b1.length) (hs0 : n = 1 + n1) (hV0 : 5 = IntKind.i64.wrap (be (b.take 1))) (hd0 : b1 = b.drop 1) (v1 : Int) (b2 : List UInt8) (n2 : Nat) (hn2 : n2 = b2.length) (hs1 : n1 = 8 + n2) (hV1 : v1 = IntKind.i64.wrap (be (b1.take 8))) (hd1 : b2 = b1.drop 8) (q : List UInt8) (hq : paySpec 5 ⟨#[]⟩ ⟨#[]⟩ 0 0 v1 0 = some q) (hz : n2 = 0) :
    Calls Try.prog 62 #[.slice A n c] w (MsgOut w (some ⟨5, ⟨#[]⟩, 0, 0, v1, 0, ⟨#[]⟩⟩)) := by
  have C0 := Lib.hid (fun (W : World) (hb : Below B w W) => cut_okB b n hn 1 1 rfl (by omega) n1 hs0 5 hV0 A c hA hc B w W hr hb (Nat.le_trans hl (by decide)))
  rw [← hd0] at C0
  have C1 := Lib.hid (fun (S : Option Addr) (c' : Nat) (hS : S = none → c' = 0) (hc' : n1 ≤ c') (h : Rd w B S (bv b1)) (W : World) (hb : Below B w W) => cut_okB b1 n1 hn1 8 8 rfl (by omega) n2 hs1 v1 hV1 S c' hS hc' B w W h hb (by omega))
  rw [← hd1] at C1
  have CP := Lib.hid (fun (W : World) => payload_any 5 ⟨#[]⟩ ⟨#[]⟩ 0 0 v1 0 W)
  rw [hq] at CP
  have HB := Lib.hid (two_box w B hB)
  have HB0 := Lib.hid (two_box w _ (Nat.le_refl _))
  have t0 : True := trivial
  have t1 : True := trivial
  obtain rfl := hz
  clear hn hn1 hs0 hV0 hd0 hn2 hs1 hV1 hd1 hq hr
  go_enter Try.func62, Try.ntmps62
  go_wp2
  refine wp_scope_fwd 0 rfl ?_
  go_wp2_with (first
    | (go_at_call 61; have _t := t0; (refine (C0.out _ (HB.out _ _ 0)).mono ?_); rintro e w1 ⟨k1, S1, c1, rfl, rfl, r1, n1', m1'⟩; clear t0 _t)
    | (go_at_call 61; have _t := t1; (refine (C1.out S1 c1 n1' m1' r1 _ (HB.out _ _ _)).mono ?_); rintro e w2 ⟨k2, S2, c2, rfl, rfl, r2, n2', m2'⟩; clear t1 _t)
    | (go_at_call 59; (refine (CP.out _).mono ?_); rintro e w9 ⟨b9, A9, c9, rfl, h9⟩; obtain ⟨hz9, hm9, hbw⟩ := boxes_at b9; have m0x := cellAt hm9 (j := 0) rfl; have m1x := cellAt hm9 (j := 1) rfl; have m2x := cellAt hm9 (j := 2) rfl; have m3x := cellAt hm9 (j := 3) rfl; have m4x := cellAt hm9 (j := 4) rfl; have m5x := cellAt hm9 (j := 5) rfl; have m6x := cellAt hm9 (j := 6) rfl; have z0 := cellAt hz9 (j := 0) rfl; have f0 := frozenAt hz9 (j := 0); have z1 := cellAt hz9 (j := 1) rfl; have f1 := frozenAt hz9 (j := 1); have z2 := cellAt hz9 (j := 2) rfl; have f2 := frozenAt hz9 (j := 2); have z3 := cellAt hz9 (j := 3) rfl; have f3 := frozenAt hz9 (j := 3); have z4 := cellAt hz9 (j := 4) rfl; have f4 := frozenAt hz9 (j := 4); have z5 := cellAt hz9 (j := 5) rfl; have f5 := frozenAt hz9 (j := 5); have z6 := cellAt hz9 (j := 6) rfl; have f6 := frozenAt hz9 (j := 6); clear b9 hz9 hm9)
    | fail)
  rw [jump_ret]
  refine bodyPost_ret (v := .tuple #[msgV ⟨5, ⟨#[]⟩, 0, 0, v1, 0, ⟨#[]⟩⟩, .bool true]) (by simp [results, Try.results62, go_sem, msgV, z0, z1, z2, z3, z4, z5, z6]) rfl ⟨?_, rfl⟩
  exact ((((((hbw.setCell (p := ⟨w.heap.size, 0, none⟩) (Nat.le_refl _) _).setCell (p := ⟨w.heap.size, 1, none⟩) (Nat.le_refl _) _).setCell (p := ⟨w.heap.size, 2, none⟩) (Nat.le_refl _) _).setCell (p := ⟨w.heap.size, 3, none⟩) (Nat.le_refl _) _).setCell (p := ⟨w.heap.size, 4, none⟩) (Nat.le_refl _) _).setCell (p := ⟨w.heap.size, 5, none⟩) (Nat.le_refl _) _).setCell (p := ⟨w.heap.size, 6, none⟩) (Nat.le_refl _) _

set_option maxRecDepth 100000 in
set_option maxHeartbeats 2000000 in
theorem m_4_a (b : List UInt8) (n : Nat) (hn : n = b.length) (A : Option Addr) (c : Nat) (hA : A = none → c = 0) (hc : n ≤ c) (B : Nat) (w : World) (hr : Rd w B A (bv b)) (hB : B ≤ w.heap.size) (hl : n ≤ 16777216) (b1 : List UInt8) (n1 : Nat) (hn1 : n1 = b1.length) (hs0 : n = 1 + n1) (hV0 : 4 = IntKind.i64.wrap (be (b.take 1))) (hd0 : b1 = b.drop 1) (hf : n1 < 8) :
    Calls Try.prog 62 #[.slice A n c] w (MsgOut w none) := by
  have C0 := Lib.hid (fun (W : World) (hb : Below B w W) => cut_okB b n hn 1 1 rfl (by omega) n1 hs0 4 hV0 A c hA hc B w W hr hb (Nat.le_trans hl (by decide)))
  rw [← hd0] at C0
  have C1 := Lib.hid (fun (S : Option Addr) (c' : Nat) (hc' : n1 ≤ c') (h : Rd w B S (bv b1)) (W : World) (hb : Below B w W) => cut_noB b1 n1 hn1 8 8 rfl (by omega) hf S c' hc' B w W h hb (by omega))
  have HB := Lib.hid (two_box w B hB)
  have HB0 := Lib.hid (two_box w _ (Nat.le_refl _))
  have t0 : True := trivial
  have t1 : True := trivial
  clear hn hn1 hs0 hV0 hd0 hf hr
  go_enter Try.func62, Try.ntmps62
  go_wp2
  refine wp_scope_fwd 0 rfl ?_
  go_wp2_with (first
    | (go_at_call 61; have _t := t0; (refine (C0.out _ (HB.out _ _ 0)).mono ?_); rintro e w1 ⟨k1, S1, c1, rfl, rfl, r1, n1', m1'⟩; clear t0 _t)
    | (go_at_call 61; have _t := t1; (refine (C1.out S1 c1 m1' r1 _ (HB.out _ _ _)).mono ?_); rintro e w2 ⟨k2, rfl, rfl⟩; clear t1 _t)
    | fail)
  go_step3
  refine ⟨rfl, ?_⟩
  go_wp2
  rw [jump_ret]
  refine bodyPost_ret (v := .tuple #[zMsg, .bool false]) (by simp [results, Try.results62, go_sem, zMsg]) rfl ⟨?_, rfl⟩
  exact HB0.out _ _ _

set_option maxRecDepth 100000 in
set_option maxHeartbeats 2000000 in
theorem m_4_b (b : List UInt8) (n : Nat) (hn : n = b.length) (A : Option Addr) (c : Nat) (hA : A = none → c = 0) (hc : n ≤ c) (B : Nat) (w : World) (hr : Rd w B A (bv b)) (hB : B ≤ w.heap.size) (hl : n ≤ 16777216) (b1 : List UInt8) (n1 : Nat) (hn1 : n1 = b1.length) (hs0 : n = 1 + n1) (hV0 : 4 = IntKind.i64.wrap (be (b.take 1))) (hd0 : b1 = b.drop 1) (v1 : Int) (b2 : List UInt8) (n2 : Nat) (hn2 : n2 = b2.length) (hs1 : n1 = 8 + n2) (hV1 : v1 = IntKind.i64.wrap (be (b1.take 8))) (hd1 : b2 = b1.drop 8) (hf : n2 < 8) :
    Calls Try.prog 62 #[.slice A n c] w (MsgOut w none) := by
  have C0 := Lib.hid (fun (W : World) (hb : Below B w W) => cut_okB b n hn 1 1 rfl (by omega) n1 hs0 4 hV0 A c hA hc B w W hr hb (Nat.le_trans hl (by decide)))
  rw [← hd0] at C0
  have C1 := Lib.hid (fun (S : Option Addr) (c' : Nat) (hS : S = none → c' = 0) (hc' : n1 ≤ c') (h : Rd w B S (bv b1)) (W : World) (hb : Below B w W) => cut_okB b1 n1 hn1 8 8 rfl (by omega) n2 hs1 v1 hV1 S c' hS hc' B w W h hb (by omega))
  rw [← hd1] at C1
  have C2 := Lib.hid (fun (S : Option Addr) (c' : Nat) (hc' : n2 ≤ c') (h : Rd w B S (bv b2)) (W : World) (hb : Below B w W) => cut_noB b2 n2 hn2 8 8 rfl (by omega) hf S c' hc' B w W h hb (by omega))
  have HB := Lib.hid (two_box w B hB)
  have HB0 := Lib.hid (two_box w _ (Nat.le_refl _))
  have t0 : True := trivial
  have t1 : True := trivial
  have t2 : True := trivial
  clear hn hn1 hs0 hV0 hd0 hn2 hs1 hV1 hd1 hf hr
  go_enter Try.func62, Try.ntmps62
  go_wp2
  refine wp_scope_fwd 0 rfl ?_
  go_wp2_with (first
    | (go_at_call 61; have _t := t0; (refine (C0.out _ (HB.out _ _ 0)).mono ?_); rintro e w1 ⟨k1, S1, c1, rfl, rfl, r1, n1', m1'⟩; clear t0 _t)
    | (go_at_call 61; have _t := t1; (refine (C1.out S1 c1 n1' m1' r1 _ (HB.out _ _ _)).mono ?_); rintro e w2 ⟨k2, S2, c2, rfl, rfl, r2, n2', m2'⟩; clear t1 _t)
    | (go_at_call 61; have _t := t2; (refine (C2.out S2 c2 m2' r2 _ (HB.out _ _ _)).mono ?_); rintro e w3 ⟨k3, rfl, rfl⟩; clear t2 _t)
    | fail)
  go_step3
  refine ⟨rfl, ?_⟩
  go_wp2
  rw [jump_ret]
  refine bodyPost_ret (v := .tuple #[zMsg, .bool false]) (by simp [results, Try.results62, go_sem, zMsg]) rfl ⟨?_, rfl⟩
  exact HB0.out _ _ _

set_option maxRecDepth 100000 in
set_option maxHeartbeats 2000000 in
theorem m_4_c (b : List UInt8) (n : Nat) (hn : n = b.length) (A : Option Addr) (c : Nat) (hA : A = none → c = 0) (hc : n ≤ c) (B : Nat) (w : World) (hr : Rd w B A (bv b)) (hB : B ≤ w.heap.size) (hl : n ≤ 16777216) (b1 : List UInt8) (n1 : Nat) (hn1 : n1 = b1.length) (hs0 : n = 1 + n1) (hV0 : 4 = IntKind.i64.wrap (be (b.take 1))) (hd0 : b1 = b.drop 1) (v1 : Int) (b2 : List UInt8) (n2 : Nat) (hn2 : n2 = b2.length) (hs1 : n1 = 8 + n2) (hV1 : v1 = IntKind.i64.wrap (be (b1.take 8))) (hd1 : b2 = b1.drop 8) (v2 : Int) (b3 : List UInt8) (n3 : Nat) (hn3 : n3 = b3.length) (hs2 : n2 = 8 + n3) (hV2 : v2 = IntKind.i64.wrap (be (b2.take 8))) (hd2 : b3 = b2.drop 8) (hf : n3 < 2) :
    Calls Try.prog 62 #[.slice A n c] w (MsgOut w none) := by
  have C0 := Lib.hid (fun (W : World) (hb : Below B w W) => cut_okB b n hn 1 1 rfl (by omega) n1 hs0 4 hV0 A c hA hc B w W hr hb (Nat.le_trans hl (by decide)))
  rw [← hd0] at C0
  have C1 := Lib.hid (fun (S : Option Addr) (c' : Nat) (hS : S = none → c' = 0) (hc' : n1 ≤ c') (h : Rd w B S (bv b1)) (W : World) (hb : Below B w W) => cut_okB b1 n1 hn1 8 8 rfl (by omega) n2 hs1 v1 hV1 S c' hS hc' B w W h hb (by omega))
  rw [← hd1] at C1
  have C2 := Lib.hid (fun (S : Option Addr) (c' : Nat) (hS : S = none → c' = 0) (hc' : n2 ≤ c') (h : Rd w B S (bv b2)) (W : World) (hb : Below B w W) => cut_okB b2 n2 hn2 8 8 rfl (by omega) n3 hs2 v2 hV2 S c' hS hc' B w W h hb (by omega))
  rw [← hd2] at C2
  have C3 := Lib.hid (fun (S : Option Addr) (c' : Nat) (hc' : n3 ≤ c') (h : Rd w B S (bv b3)) (W : World) (hb : Below B w W) => cut_noB b3 n3 hn3 2 2 rfl (by omega) hf S c' hc' B w W h hb (by omega))
  have HB := Lib.hid (two_box w B hB)
  have HB0 := Lib.hid (two_box w _ (Nat.le_refl _))
  have t0 : True := trivial
  have t1 : True := trivial
  have t2 : True := trivial
  have t3 : True := trivial
  clear hn hn1 hs0 hV0 hd0 hn2 hs1 hV1 hd1 hn3 hs2 hV2 hd2 hf hr
  go_enter Try.func62, Try.ntmps62
  go_wp2
  refine wp_scope_fwd 0 rfl ?_
  go_wp2_with (first
    | (go_at_call 61; have _t := t0; (refine (C0.out _ (HB.out _ _ 0)).mono ?_); rintro e w1 ⟨k1, S1, c1, rfl, rfl, r1, n1', m1'⟩; clear t0 _t)
    | (go_at_call 61; have _t := t1; (refine (C1.out S1 c1 n1' m1' r1 _ (HB.out _ _ _)).mono ?_); rintro e w2 ⟨k2, S2, c2, rfl, rfl, r2, n2', m2'⟩; clear t1 _t)
    | (go_at_call 61; have _t := t2; (refine (C2.out S2 c2 n2' m2' r2 _ (HB.out _ _ _)).mono ?_); rintro e w3 ⟨k3, S3, c3, rfl, rfl, r3, n3', m3'⟩; clear t2 _t)
    | (go_at_call 61; have _t := t3; (refine (C3.out S3 c3 m3' r3 _ (HB.out _ _ _)).mono ?_); rintro e w4 ⟨k4, rfl, rfl⟩; clear t3 _t)
    | fail)
  go_step3
  refine ⟨rfl, ?_⟩
  go_wp2
  rw [jump_ret]
  refine bodyPost_ret (v := .tuple #[zMsg, .bool false]) (by simp [results, Try.results62, go_sem, zMsg]) rfl ⟨?_, rfl⟩
  exact HB0.out _ _ _

set_option maxRecDepth 100000 in
set_option maxHeartbeats 2000000 in
theorem m_4_n (b : List UInt8) (n : Nat) (hn : n = b.length) (A : Option Addr) (c : Nat) (hA : A = none → c = 0) (hc : n ≤ c) (B : Nat) (w : World) (hr : Rd w B A (bv b)) (hB : B ≤ w.heap.size) (hl : n ≤ 16777216) (b1 : List UInt8) (n1 : Nat) (hn1 : n1 = b1.length) (hs0 : n = 1 + n1) (hV0 : 4 = IntKind.i64.wrap (be (b.take 1))) (hd0 : b1 = b.drop 1) (v1 : Int) (b2 : List UInt8) (n2 : Nat) (hn2 : n2 = b2.length) (hs1 : n1 = 8 + n2) (hV1 : v1 = IntKind.i64.wrap (be (b1.take 8))) (hd1 : b2 = b1.drop 8) (v2 : Int) (b3 : List UInt8) (n3 : Nat) (hn3 : n3 = b3.length) (hs2 : n2 = 8 + n3) (hV2 : v2 = IntKind.i64.wrap (be (b2.take 8))) (hd2 : b3 = b2.drop 8) (v3 : Int) (b4 : List UInt8) (n4 : Nat) (hn4 : n4 = b4.length) (hs3 : n3 = 2 + n4) (hV3 : v3 = IntKind.i64.wrap (be (b3.take 2))) (hd3 : b4 = b3.drop 2) (hq : paySpec 4 ⟨#[]⟩ ⟨#[]⟩ v2 0 v1 v3 = none) :
    Calls Try.prog 62 #[.slice A n c] w (MsgOut w none) := by
  have C0 := Lib.hid (fun (W : World) (hb : Below B w W) => cut_okB b n hn 1 1 rfl (by omega) n1 hs0 4 hV0 A c hA hc B w W hr hb (Nat.le_trans hl (by decide)))
  rw [← hd0] at C0
  have C1 := Lib.hid (fun (S : Option Addr) (c' : Nat) (hS : S = none → c' = 0) (hc' : n1 ≤ c') (h : Rd w B S (bv b1)) (W : World) (hb : Below B w W) => cut_okB b1 n1 hn1 8 8 rfl (by omega) n2 hs1 v1 hV1 S c' hS hc' B w W h hb (by omega))
  rw [← hd1] at C1
  have C2 := Lib.hid (fun (S : Option Addr) (c' : Nat) (hS : S = none → c' = 0) (hc' : n2 ≤ c') (h : Rd w B S (bv b2)) (W : World) (hb : Below B w W) => cut_okB b2 n2 hn2 8 8 rfl (by omega) n3 hs2 v2 hV2 S c' hS hc' B w W h hb (by omega))
  rw [← hd2] at C2
  have C3 := Lib.hid (fun (S : Option Addr) (c' : Nat) (hS : S = none → c' = 0) (hc' : n3 ≤ c') (h : Rd w B S (bv b3)) (W : World) (hb : Below B w W) => cut_okB b3 n3 hn3 2 2 rfl (by omega) n4 hs3 v3 hV3 S c' hS hc' B w W h hb (by omega))
  rw [← hd3] at C3
  have CP := Lib.hid (fun (W : World) => payload_any 4 ⟨#[]⟩ ⟨#[]⟩ v2 0 v1 v3 W)
  rw [hq] at CP
  have HB := Lib.hid (two_box w B hB)
  have HB0 := Lib.hid (two_box w _ (Nat.le_refl _))
  have t0 : True := trivial
  have t1 : True := trivial
  have t2 : True := trivial
  have t3 : True := trivial
  clear hn hn1 hs0 hV0 hd0 hn2 hs1 hV1 hd1 hn3 hs2 hV2 hd2 hn4 hs3 hV3 hd3 hq hr
  go_enter Try.func62, Try.ntmps62
  go_wp2
  refine wp_scope_fwd 0 rfl ?_
  go_wp2_with (first
    | (go_at_call 61; have _t := t0; (refine (C0.out _ (HB.out _ _ 0)).mono ?_); rintro e w1 ⟨k1, S1, c1, rfl, rfl, r1, n1', m1'⟩; clear t0 _t)
    | (go_at_call 61; have _t := t1; (refine (C1.out S1 c1 n1' m1' r1 _ (HB.out _ _ _)).mono ?_); rintro e w2 ⟨k2, S2, c2, rfl, rfl, r2, n2', m2'⟩; clear t1 _t)
    | (go_at_call 61; have _t := t2; (refine (C2.out S2 c2 n2' m2' r2 _ (HB.out _ _ _)).mono ?_); rintro e w3 ⟨k3, S3, c3, rfl, rfl, r3, n3', m3'⟩; clear t2 _t)
    | (go_at_call 61; have _t := t3; (refine (C3.out S3 c3 n3' m3' r3 _ (HB.out _ _ _)).mono ?_); rintro e w4 ⟨k4, S4, c4, rfl, rfl, r4, n4', m4'⟩; clear t3 _t)
    | (go_at_call 59; (refine (CP.out _).mono ?_); rintro e w9 ⟨b9, v9, rfl⟩; obtain ⟨hz9, hm9, hbw⟩ := boxes_at b9; have m0x := cellAt hm9 (j := 0) rfl; have m1x := cellAt hm9 (j := 1) rfl; have m2x := cellAt hm9 (j := 2) rfl; have m3x := cellAt hm9 (j := 3) rfl; have m4x := cellAt hm9 (j := 4) rfl; have m5x := cellAt hm9 (j := 5) rfl; have m6x := cellAt hm9 (j := 6) rfl; have z0 := cellAt hz9 (j := 0) rfl; have f0 := frozenAt hz9 (j := 0); have z1 := cellAt hz9 (j := 1) rfl; have f1 := frozenAt hz9 (j := 1); have z2 := cellAt hz9 (j := 2) rfl; have f2 := frozenAt hz9 (j := 2); have z3 := cellAt hz9 (j := 3) rfl; have f3 := frozenAt hz9 (j := 3); have z4 := cellAt hz9 (j := 4) rfl; have f4 := frozenAt hz9 (j := 4); have z5 := cellAt hz9 (j := 5) rfl; have f5 := frozenAt hz9 (j := 5); have z6 := cellAt hz9 (j := 6) rfl; have f6 := frozenAt hz9 (j := 6); clear b9 hz9 hm9)
    | fail)
  go_step3
  go_wp2
  rw [jump_ret]
  refine bodyPost_ret (v := .tuple #[zMsg, .bool false]) (by simp [results, Try.results62, go_sem, zMsg, z0, z1, z2, z3, z4, z5, z6]) rfl ⟨?_, rfl⟩
  exact ((((((hbw.setCell (p := ⟨w.heap.size, 0, none⟩) (Nat.le_refl _) _).setCell (p := ⟨w.heap.size, 1, none⟩) (Nat.le_refl _) _).setCell (p := ⟨w.heap.size, 2, none⟩) (Nat.le_refl _) _).setCell (p := ⟨w.heap.size, 3, none⟩) (Nat.le_refl _) _).setCell (p := ⟨w.heap.size, 4, none⟩) (Nat.le_refl _) _).setCell (p := ⟨w.heap.size, 5, none⟩) (Nat.le_refl _) _).setCell (p := ⟨w.heap.size, 6, none⟩) (Nat.le_refl _) _

set_option maxRecDepth 100000 in
set_option maxHeartbeats 2000000 in
theorem m_4_m (b : List UInt8) (n : Nat) (hn : n = b.length) (A : Option Addr) (c : Nat) (hA : A = none → c = 0) (hc : n ≤ c) (B : Nat) (w : World) (hr : Rd w B A (bv b)) (hB : B ≤ w.heap.size) (hl : n ≤ 16777216) (b1 : List UInt8) (n1 : Nat) (hn1 : n1 = b1.length) (hs0 : n = 1 + n1) (hV0 : 4 = IntKind.i64.wrap (be (b.take 1))) (hd0 : b1 = b.drop 1) (v1 : Int) (b2 : List UInt8) (n2 : Nat) (hn2 : n2 = b2.length) (hs1 : n1 = 8 + n2) (hV1 : v1 = IntKind.i64.wrap (be (b1.take 8))) (hd1 : b2 = b1.drop 8) (v2 : Int) (b3 : List UInt8) (n3 : Nat) (hn3 : n3 = b3.length) (hs2 : n2 = 8 + n3) (hV2 : v2 = IntKind.i64.wrap (be (b2.take 8))) (hd2 : b3 = b2.drop 8) (v3 : Int) (b4 : List UInt8) (n4 : Nat) (hn4 : n4 = b4.length) (hs3 : n3 = 2 + n4) (hV3 : v3 = IntKind.i64.wrap (be (b3.take 2))) (hd3 : b4 = b3.drop 2) (q : List UInt8) (hq : paySpec 4 ⟨#[]⟩ ⟨#[]⟩ v2 0 v1 v3 = some q) (hz : 0 < n4) :
    Calls Try.prog 62 #[.slice A n c] w (MsgOut w none) := by
  have C0 := Lib.hid (fun (W : World) (hb : Below B w W) => cut_okB b n hn 1 1 rfl (by omega) n1 hs0 4 hV0 A c hA hc B w W hr hb (Nat.le_trans hl (by decide)))
  rw [← hd0] at C0
  have C1 := Lib.hid (fun (S : Option Addr) (c' : Nat) (hS : S = none → c' = 0) (hc' : n1 ≤ c') (h : Rd w B S (bv b1)) (W : World) (hb : Below B w W) => cut_okB b1 n1 hn1 8 8 rfl (by omega) n2 hs1 v1 hV1 S c' hS hc' B w W h hb (by omega))
  rw [← hd1] at C1
  have C2 := Lib.hid (fun (S : Option Addr) (c' : Nat) (hS : S = none → c' = 0) (hc' : n2 ≤ c') (h : Rd w B S (bv b2)) (W : World) (hb : Below B w W) => cut_okB b2 n2 hn2 8 8 rfl (by omega) n3 hs2 v2 hV2 S c' hS hc' B w W h hb (by omega))
  rw [← hd2] at C2
  have C3 := Lib.hid (fun (S : Option Addr) (c' : Nat) (hS : S = none → c' = 0) (hc' : n3 ≤ c') (h : Rd w B S (bv b3)) (W : World) (hb : Below B w W) => cut_okB b3 n3 hn3 2 2 rfl (by omega) n4 hs3 v3 hV3 S c' hS hc' B w W h hb (by omega))
  rw [← hd3] at C3
  have CP := Lib.hid (fun (W : World) => payload_any 4 ⟨#[]⟩ ⟨#[]⟩ v2 0 v1 v3 W)
  rw [hq] at CP
  have HB := Lib.hid (two_box w B hB)
  have HB0 := Lib.hid (two_box w _ (Nat.le_refl _))
  have t0 : True := trivial
  have t1 : True := trivial
  have t2 : True := trivial
  have t3 : True := trivial
  clear hn hn1 hs0 hV0 hd0 hn2 hs1 hV1 hd1 hn3 hs2 hV2 hd2 hn4 hs3 hV3 hd3 hq hr
  go_enter Try.func62, Try.ntmps62
  go_wp2
  refine wp_scope_fwd 0 rfl ?_
  go_wp2_with (first
    | (go_at_call 61; have _t := t0; (refine (C0.out _ (HB.out _ _ 0)).mono ?_); rintro e w1 ⟨k1, S1, c1, rfl, rfl, r1, n1', m1'⟩; clear t0 _t)
    | (go_at_call 61; have _t := t1; (refine (C1.out S1 c1 n1' m1' r1 _ (HB.out _ _ _)).mono ?_); rintro e w2 ⟨k2, S2, c2, rfl, rfl, r2, n2', m2'⟩; clear t1 _t)
    | (go_at_call 61; have _t := t2; (refine (C2.out S2 c2 n2' m2' r2 _ (HB.out _ _ _)).mono ?_); rintro e w3 ⟨k3, S3, c3, rfl, rfl, r3, n3', m3'⟩; clear t2 _t)
    | (go_at_call 61; have _t := t3; (refine (C3.out S3 c3 n3' m3' r3 _ (HB.out _ _ _)).mono ?_); rintro e w4 ⟨k4, S4, c4, rfl, rfl, r4, n4', m4'⟩; clear t3 _t)
    | (go_at_call 59; (refine (CP.out _).mono ?_); rintro e w9 ⟨b9, A9, c9, rfl, h9⟩; obtain ⟨hz9, hm9, hbw⟩ := boxes_at b9; have m0x := cellAt hm9 (j := 0) rfl; have m1x := cellAt hm9 (j := 1) rfl; have m2x := cellAt hm9 (j := 2) rfl; have m3x := cellAt hm9 (j := 3) rfl; have m4x := cellAt hm9 (j := 4) rfl; have m5x := cellAt hm9 (j := 5) rfl; have m6x := cellAt hm9 (j := 6) rfl; have z0 := cellAt hz9 (j := 0) rfl; have f0 := frozenAt hz9 (j := 0); have z1 := cellAt hz9 (j := 1) rfl; have f1 := frozenAt hz9 (j := 1); have z2 := cellAt hz9 (j := 2) rfl; have f2 := frozenAt hz9 (j := 2); have z3 := cellAt hz9 (j := 3) rfl; have f3 := frozenAt hz9 (j := 3); have z4 := cellAt hz9 (j := 4) rfl; have f4 := frozenAt hz9 (j := 4); have z5 := cellAt hz9 (j := 5) rfl; have f5 := frozenAt hz9 (j := 5); have z6 := cellAt hz9 (j := 6) rfl; have f6 := frozenAt hz9 (j := 6); clear b9 hz9 hm9)
    | fail)
  go_step3
  go_wp2
  rw [jump_ret]
  refine bodyPost_ret (v := .tuple #[zMsg, .bool false]) (by simp [results, Try.results62, go_sem, zMsg, z0, z1, z2, z3, z4, z5, z6]) rfl ⟨?_, rfl⟩
  exact ((((((hbw.setCell (p := ⟨w.heap.size, 0, none⟩) (Nat.le_refl _) _).setCell (p := ⟨w.heap.size, 1, none⟩) (Nat.le_refl _) _).setCell (p := ⟨w.heap.size, 2, none⟩) (Nat.le_refl _) _).setCell (p := ⟨w.heap.size, 3, none⟩) (Nat.le_refl _) _).setCell (p := ⟨w.heap.size, 4, none⟩) (Nat.le_refl _) _).setCell (p := ⟨w.heap.size, 5, none⟩) (Nat.le_refl _) _).setCell (p := ⟨w.heap.size, 6, none⟩) (Nat.le_refl _) _

set_option maxRecDepth 100000 in
set_option maxHeartbeats 2000000 in
theorem m_4_g (b : List UInt8) (n : Nat) (hn : n = b.length) (A : Option Addr) (c : Nat) (hA : A = none → c = 0) (hc : n ≤ c) (B : Nat) (w : World) (hr : Rd w B A (bv b)) (hB : B ≤ w.heap.size) (hl : n ≤ 16777216) (b1 : List UInt8) (n1 : Nat) (hn1 : n1 = b1.length) (hs0 : n = 1 + n1) (hV0 : 4 = IntKind.i64.wrap (be (b.take 1))) (hd0 : b1 = b.drop 1) (v1 : Int) (b2 : List UInt8) (n2 : Nat) (hn2 : n2 = b2.length) (hs1 : n1 = 8 + n2) (hV1 : v1 = IntKind.i64.wrap (be (b1.take 8))) (hd1 : b2 = b1.drop 8) (v2 : Int) (b3 : List UInt8) (n3 : Nat) (hn3 : n3 = b3.length) (hs2 : n2 = 8 + n3) (hV2 : v2 = IntKind.i64.wrap (be (b2.take 8))) (hd2 : b3 = b2.drop 8) (v3 : Int) (b4 : List UInt8) (n4 : Nat) (hn4 : n4 = b4.length) (hs3 : n3 = 2 + n4) (hV3 : v3 = IntKind.i64.wrap (be (b3.take 2))) (hd3 : b4 = b3.drop 2) (q : List UInt8) (hq : paySpec 4 ⟨#[]⟩ ⟨#[]⟩ v2 0 v1 v3 = some q) (hz : n4 = 0) :
    Calls Try.prog 62 #[.slice A n c] w (MsgOut w (some ⟨4, ⟨#[]⟩, v2, 0, v1, v3, ⟨#[]⟩⟩)) := by
  have C0 := Lib.hid (fun (W : World) (hb : Below B w W) => cut_okB b n hn 1 1 rfl (by omega) n1 hs0 4 hV0 A c hA hc B w W hr hb (Nat.le_trans hl (by decide)))
  rw [← hd0] at C0
  have C1 := Lib.hid (fun (S : Option Addr) (c' : Nat) (hS : S = none → c' = 0) (hc' : n1 ≤ c') (h : Rd w B S (bv b1)) (W : World) (hb : Below B w W) => cut_okB b1 n1 hn1 8 8 rfl (by omega) n2 hs1 v1 hV1 S c' hS hc' B w W h hb (by omega))
  rw [← hd1] at C1
  have C2 := Lib.hid (fun (S : Option Addr) (c' : Nat) (hS : S = none → c' = 0) (hc' : n2 ≤ c') (h : Rd w B S (bv b2)) (W : World) (hb : Below B w W) => cut_okB b2 n2 hn2 8 8 rfl (by omega) n3 hs2 v2 hV2 S c' hS hc' B w W h hb (by omega))
  rw [← hd2] at C2
  have C3 := Lib.hid (fun (S : Option Addr) (c' : Nat) (hS : S = none → c' = 0) (hc' : n3 ≤ c') (h : Rd w B S (bv b3)) (W : World) (hb : Below B w W) => cut_okB b3 n3 hn3 2 2 rfl (by omega) n4 hs3 v3 hV3 S c' hS hc' B w W h hb (by omega))
  rw [← hd3] at C3
  have CP := Lib.hid (fun (W : World) => payload_any 4 ⟨#[]⟩ ⟨#[]⟩ v2 0 v1 v3 W)
  rw [hq] at CP
  have HB := Lib.hid (two_box w B hB)
  have HB0 := Lib.hid (two_box w _ (Nat.le_refl _))
  have t0 : True := trivial
  have t1 : True := trivial
  have t2 : True := trivial
  have t3 : True := trivial
  obtain rfl := hz
  clear hn hn1 hs0 hV0 hd0 hn2 hs1 hV1 hd1 hn3 hs2 hV2 hd2 hn4 hs3 hV3 hd3 hq hr
  go_enter Try.func62, Try.ntmps62
  go_wp2
  refine wp_scope_fwd 0 rfl ?_
  go_wp2_with (first
    | (go_at_call 61; have _t := t0; (refine (C0.out _ (HB.out _ _ 0)).mono ?_); rintro e w1 ⟨k1, S1, c1, rfl, rfl, r1, n1', m1'⟩; clear t0 _t)
    | (go_at_call 61; have _t := t1; (refine (C1.out S1 c1 n1' m1' r1 _ (HB.out _ _ _)).mono ?_); rintro e w2 ⟨k2, S2, c2, rfl, rfl, r2, n2', m2'⟩; clear t1 _t)
    | (go_at_call 61; have _t := t2; (refine (C2.out S2 c2 n2' m2' r2 _ (HB.out _ _ _)).mono ?_); rintro e w3 ⟨k3, S3, c3, rfl, rfl, r3, n3', m3'⟩; clear t2 _t)
    | (go_at_call 61; have _t := t3; (refine (C3.out S3 c3 n3' m3' r3 _ (HB.out _ _ _)).mono ?_); rintro e w4 ⟨k4, S4, c4, rfl, rfl, r4, n4', m4'⟩; clear t3 _t)
    | (go_at_call 59; (refine (CP.out _).mono ?_); rintro e w9 ⟨b9, A9, c9, rfl, h9⟩; obtain ⟨hz9, hm9, hbw⟩ := boxes_at b9; have m0x := cellAt hm9 (j := 0) rfl; have m1x := cellAt hm9 (j := 1) rfl; have m2x := cellAt hm9 (j := 2) rfl; have m3x := cellAt hm9 (j := 3) rfl; have m4x := cellAt hm9 (j := 4) rfl; have m5x := cellAt hm9 (j := 5) rfl; have m6x := cellAt hm9 (j := 6) rfl; have z0 := cellAt hz9 (j := 0) rfl; have f0 := frozenAt hz9 (j := 0); have z1 := cellAt hz9 (j := 1) rfl; have f1 := frozenAt hz9 (j := 1); have z2 := cellAt hz9 (j := 2) rfl; have f2 := frozenAt hz9 (j := 2); have z3 := cellAt hz9 (j := 3) rfl; have f3 := frozenAt hz9 (j := 3); have z4 := cellAt hz9 (j := 4) rfl; have f4 := frozenAt hz9 (j := 4); have z5 := cellAt hz9 (j := 5) rfl; have f5 := frozenAt hz9 (j := 5); have z6 := cellAt hz9 (j := 6) rfl; have f6 := frozenAt hz9 (j := 6); clear b9 hz9 hm9)
    | fail)
  rw [jump_ret]
  refine bodyPost_ret (v := .tuple #[msgV ⟨4, ⟨#[]⟩, v2, 0, v1, v3, ⟨#[]⟩⟩, .bool true]) (by simp [results, Try.results62, go_sem, msgV, z0, z1, z2, z3, z4, z5, z6]) rfl ⟨?_, rfl⟩
  exact ((((((hbw.setCell (p := ⟨w.heap.size, 0, none⟩) (Nat.le_refl _) _).setCell (p := ⟨w.heap.size, 1, none⟩) (Nat.le_refl _) _).setCell (p := ⟨w.heap.size, 2, none⟩) (Nat.le_refl _) _).setCell (p := ⟨w.heap.size, 3, none⟩) (Nat.le_refl _) _).setCell (p := ⟨w.heap.size, 4, none⟩) (Nat.le_refl _) _).setCell (p := ⟨w.heap.size, 5, none⟩) (Nat.le_refl _) _).setCell (p := ⟨w.heap.size, 6, none⟩) (Nat.le_refl _) _

set_option maxRecDepth 100000 in
set_option maxHeartbeats 2000000 in
theorem m_o_a (b : List UInt8) (n : Nat) (hn : n = b.length) (A : Option Addr) (c : Nat) (hA : A = none → c = 0) (hc : n ≤ c) (B : Nat) (w : World) (hr : Rd w B A (bv b)) (hB : B ≤ w.heap.size) (hl : n ≤ 16777216) (kd : Int) (kk : (kd == 1) = false ∧ (kd == 2) = false ∧ (kd == 4) = false ∧ (kd != 5) = true) (b1 : List UInt8) (n1 : Nat) (hn1 : n1 = b1.length) (hs0 : n = 1 + n1) (hV0 : kd = IntKind.i64.wrap (be (b.take 1))) (hd0 : b1 = b.drop 1) (hf : n1 < 8) :
    Calls Try.prog 62 #[.slice A n c] w (MsgOut w none) := by
  obtain ⟨k1, k2, k4, k5⟩ := kk
  have C0 := Lib.hid (fun (W : World) (hb : Below B w W) => cut_okB b n hn 1 1 rfl (by omega) n1 hs0 kd hV0 A c hA hc B w W hr hb (Nat.le_trans hl (by decide)))
  rw [← hd0] at C0
  have C1 := Lib.hid (fun (S : Option Addr) (c' : Nat) (hc' : n1 ≤ c') (h : Rd w B S (bv b1)) (W : World) (hb : Below B w W) => cut_noB b1 n1 hn1 8 8 rfl (by omega) hf S c' hc' B w W h hb (by omega))
  have HB := Lib.hid (two_box w B hB)
  have HB0 := Lib.hid (two_box w _ (Nat.le_refl _))
  have t0 : True := trivial
  have t1 : True := trivial
  clear hn hn1 hs0 hV0 hd0 hf hr
  go_enter Try.func62, Try.ntmps62
  go_wp2
  refine wp_scope_fwd 0 rfl ?_
  go_wp2_with (first
    | (go_at_call 61; have _t := t0; (refine (C0.out _ (HB.out _ _ 0)).mono ?_); rintro e w1 ⟨k1, S1, c1, rfl, rfl, r1, n1', m1'⟩; clear t0 _t)
    | (go_at_call 61; have _t := t1; (refine (C1.out S1 c1 m1' r1 _ (HB.out _ _ _)).mono ?_); rintro e w2 ⟨k2, rfl, rfl⟩; clear t1 _t)
    | fail)
  go_step3
  refine ⟨rfl, ?_⟩
  go_wp2
  rw [jump_ret]
  refine bodyPost_ret (v := .tuple #[zMsg, .bool false]) (by simp [results, Try.results62, go_sem, zMsg]) rfl ⟨?_, rfl⟩
  exact HB0.out _ _ _

set_option maxRecDepth 100000 in
set_option maxHeartbeats 2000000 in
theorem m_o_b (b : List UInt8) (n : Nat) (hn : n = b.length) (A : Option Addr) (c : Nat) (hA : A = none → c = 0) (hc : n ≤ c) (B : Nat) (w : World) (hr : Rd w B A (bv b)) (hB : B ≤ w.heap.size) (hl : n ≤ 16777216) (kd : Int) (kk : (kd == 1) = false ∧ (kd == 2) = false ∧ (kd == 4) = false ∧ (kd != 5) = true) (b1 : List UInt8) (n1 : Nat) (hn1 : n1 = b1.length) (hs0 : n = 1 + n1) (hV0 : kd = IntKind.i64.wrap (be (b.take 1))) (hd0 : b1 = b.drop 1) (v1 : Int) (b2 : List UInt8) (n2 : Nat) (hn2 : n2 = b2.length) (hs1 : n1 = 8 + n2) (hV1 : v1 = IntKind.i64.wrap (be (b1.take 8))) (hd1 : b2 = b1.drop 8) (hf : n2 < 8) :
    Calls Try.prog 62 #[.slice A n c] w (MsgOut w none) := by
  obtain ⟨k1, k2, k4, k5⟩ := kk
  have C0 := Lib.hid (fun (W : World) (hb : Below B w W) => cut_okB b n hn 1 1 rfl (by omega) n1 hs0 kd hV0 A c hA hc B w W hr hb (Nat.le_trans hl (by decide)))
  rw [← hd0] at C0
  have C1 := Lib.hid (fun (S : Option Addr) (c' : Nat) (hS : S = none → c' = 0) (hc' : n1 ≤ c') (h : Rd w B S (bv b1)) (W : World) (hb : Below B w W) => cut_okB b1 n1 hn1 8 8 rfl (by omega) n2 hs1 v1 hV1 S c' hS hc' B w W h hb (by omega))
  rw [← hd1] at C1
  have C2 := Lib.hid (fun (S : Option Addr) (c' : Nat) (hc' : n2 ≤ c') (h : Rd w B S (bv b2)) (W : World) (hb : Below B w W) => cut_noB b2 n2 hn2 8 8 rfl (by omega) hf S c' hc' B w W h hb (by omega))
  have HB := Lib.hid (two_box w B hB)
  have HB0 := Lib.hid (two_box w _ (Nat.le_refl _))
  have t0 : True := trivial
  have t1 : True := trivial
  have t2 : True := trivial
  clear hn hn1 hs0 hV0 hd0 hn2 hs1 hV1 hd1 hf hr
  go_enter Try.func62, Try.ntmps62
  go_wp2
  refine wp_scope_fwd 0 rfl ?_
  go_wp2_with (first
    | (go_at_call 61; have _t := t0; (refine (C0.out _ (HB.out _ _ 0)).mono ?_); rintro e w1 ⟨k1, S1, c1, rfl, rfl, r1, n1', m1'⟩; clear t0 _t)
    | (go_at_call 61; have _t := t1; (refine (C1.out S1 c1 n1' m1' r1 _ (HB.out _ _ _)).mono ?_); rintro e w2 ⟨k2, S2, c2, rfl, rfl, r2, n2', m2'⟩; clear t1 _t)
    | (go_at_call 61; have _t := t2; (refine (C2.out S2 c2 m2' r2 _ (HB.out _ _ _)).mono ?_); rintro e w3 ⟨k3, rfl, rfl⟩; clear t2 _t)
    | fail)
  go_step3
  refine ⟨rfl, ?_⟩
  go_wp2
  rw [jump_ret]
  refine bodyPost_ret (v := .tuple #[zMsg, .bool false]) (by simp [results, Try.results62, go_sem, zMsg]) rfl ⟨?_, rfl⟩
  exact HB0.out _ _ _

set_option maxRecDepth 100000 in
set_option maxHeartbeats 2000000 in
theorem m_o_n (b : List UInt8) (n : Nat) (hn : n = b.length) (A : Option Addr) (c : Nat) (hA : A = none → c = 0) (hc : n ≤ c) (B : Nat) (w : World) (hr : Rd w B A (bv b)) (hB : B ≤ w.heap.size) (hl : n ≤ 16777216) (kd : Int) (kk : (kd == 1) = false ∧ (kd == 2) = false ∧ (kd == 4) = false ∧ (kd != 5) = true) (b1 : List UInt8) (n1 : Nat) (hn1 : n1 = b1.length) (hs0 : n = 1 + n1) (hV0 : kd = IntKind.i64.wrap (be (b.take 1))) (hd0 : b1 = b.drop 1) (v1 : Int) (b2 : List UInt8) (n2 : Nat) (hn2 : n2 = b2.length) (hs1 : n1 = 8 + n2) (hV1 : v1 = IntKind.i64.wrap (be (b1.take 8))) (hd1 : b2 = b1.drop 8) (v2 : Int) (b3 : List UInt8) (n3 : Nat) (hn3 : n3 = b3.length) (hs2 : n2 = 8 + n3) (hV2 : v2 = IntKind.i64.wrap (be (b2.take 8))) (hd2 : b3 = b2.drop 8) (hq : paySpec kd ⟨#[]⟩ ⟨#[]⟩ v2 0 v1 0 = none) :
    Calls Try.prog 62 #[.slice A n c] w (MsgOut w none) := by
  obtain ⟨k1, k2, k4, k5⟩ := kk
  have C0 := Lib.hid (fun (W : World) (hb : Below B w W) => cut_okB b n hn 1 1 rfl (by omega) n1 hs0 kd hV0 A c hA hc B w W hr hb (Nat.le_trans hl (by decide)))
  rw [← hd0] at C0
  have C1 := Lib.hid (fun (S : Option Addr) (c' : Nat) (hS : S = none → c' = 0) (hc' : n1 ≤ c') (h : Rd w B S (bv b1)) (W : World) (hb : Below B w W) => cut_okB b1 n1 hn1 8 8 rfl (by omega) n2 hs1 v1 hV1 S c' hS hc' B w W h hb (by omega))
  rw [← hd1] at C1
  have C2 := Lib.hid (fun (S : Option Addr) (c' : Nat) (hS : S = none → c' = 0) (hc' : n2 ≤ c') (h : Rd w B S (bv b2)) (W : World) (hb : Below B w W) => cut_okB b2 n2 hn2 8 8 rfl (by omega) n3 hs2 v2 hV2 S c' hS hc' B w W h hb (by omega))
  rw [← hd2] at C2
  have CP := Lib.hid (fun (W : World) => payload_any kd ⟨#[]⟩ ⟨#[]⟩ v2 0 v1 0 W)
  rw [hq] at CP
  have HB := Lib.hid (two_box w B hB)
  have HB0 := Lib.hid (two_box w _ (Nat.le_refl _))
  have t0 : True := trivial
  have t1 : True := trivial
  have t2 : True := trivial
  clear hn hn1 hs0 hV0 hd0 hn2 hs1 hV1 hd1 hn3 hs2 hV2 hd2 hq hr
  go_enter Try.func62, Try.ntmps62
  go_wp2
  refine wp_scope_fwd 0 rfl ?_
  go_wp2_with (first
    | (go_at_call 61; have _t := t0; (refine (C0.out _ (HB.out _ _ 0)).mono ?_); rintro e w1 ⟨k1, S1, c1, rfl, rfl, r1, n1', m1'⟩; clear t0 _t)
    | (go_at_call 61; have _t := t1; (refine (C1.out S1 c1 n1' m1' r1 _ (HB.out _ _ _)).mono ?_); rintro e w2 ⟨k2, S2, c2, rfl, rfl, r2, n2', m2'⟩; clear t1 _t)
    | (go_at_call 61; have _t := t2; (refine (C2.out S2 c2 n2' m2' r2 _ (HB.out _ _ _)).mono ?_); rintro e w3 ⟨k3, S3, c3, rfl, rfl, r3, n3', m3'⟩; clear t2 _t)
    | (go_at_call 59; (refine (CP.out _).mono ?_); rintro e w9 ⟨b9, v9, rfl⟩; obtain ⟨hz9, hm9, hbw⟩ := boxes_at b9; have m0x := cellAt hm9 (j := 0) rfl; have m1x := cellAt hm9 (j := 1) rfl; have m2x := cellAt hm9 (j := 2) rfl; have m3x := cellAt hm9 (j := 3) rfl; have m4x := cellAt hm9 (j := 4) rfl; have m5x := cellAt hm9 (j := 5) rfl; have m6x := cellAt hm9 (j := 6) rfl; have z0 := cellAt hz9 (j := 0) rfl; have f0 := frozenAt hz9 (j := 0); have z1 := cellAt hz9 (j := 1) rfl; have f1 := frozenAt hz9 (j := 1); have z2 := cellAt hz9 (j := 2) rfl; have f2 := frozenAt hz9 (j := 2); have z3 := cellAt hz9 (j := 3) rfl; have f3 := frozenAt hz9 (j := 3); have z4 := cellAt hz9 (j := 4) rfl; have f4 := frozenAt hz9 (j := 4); have z5 := cellAt hz9 (j := 5) rfl; have f5 := frozenAt hz9 (j := 5); have z6 := cellAt hz9 (j := 6) rfl; have f6 := frozenAt hz9 (j := 6); clear b9 hz9 hm9)
    | fail)
  go_step3
  go_wp2
  rw [jump_ret]
  refine bodyPost_ret (v := .tuple #[zMsg, .bool false]) (by simp [results, Try.results62, go_sem, zMsg, z0, z1, z2, z3, z4, z5, z6]) rfl ⟨?_, rfl⟩
  exact ((((((hbw.setCell (p := ⟨w.heap.size, 0, none⟩) (Nat.le_refl _) _).setCell (p := ⟨w.heap.size, 1, none⟩) (Nat.le_refl _) _).setCell (p := ⟨w.heap.size, 2, none⟩) (Nat.le_refl _) _).setCell (p := ⟨w.heap.size, 3, none⟩) (Nat.le_refl _) _).setCell (p := ⟨w.heap.size, 4, none⟩) (Nat.le_refl _) _).setCell (p := ⟨w.heap.size, 5, none⟩) (Nat.le_refl _) _).setCell (p := ⟨w.heap.size, 6, none⟩) (Nat.le_refl _) _

set_option maxRecDepth 100000 in
set_option maxHeartbeats 2000000 in
theorem m_2_a (b : List UInt8) (n : Nat) (hn : n = b.length) (A : Option Addr) (c : Nat) (hA : A = none → c = 0) (hc : n ≤ c) (B : Nat) (w : World) (hr : Rd w B A (bv b)) (hB : B ≤ w.heap.size) (hl : n ≤ 16777216) (b1 : List UInt8) (n1 : Nat) (hn1 : n1 = b1.length) (hs0 : n = 1 + n1) (hV0 : 2 = IntKind.i64.wrap (be (b.take 1))) (hd0 : b1 = b.drop 1) (hf : n1 < 8) :
    Calls Try.prog 62 #[.slice A n c] w (MsgOut w none) := by
  have C0 := Lib.hid (fun (W : World) (hb : Below B w W) => cut_okB b n hn 1 1 rfl (by omega) n1 hs0 2 hV0 A c hA hc B w W hr hb (Nat.le_trans hl (by decide)))
  rw [← hd0] at C0
  have C1 := Lib.hid (fun (S : Option Addr) (c' : Nat) (hc' : n1 ≤ c') (h : Rd w B S (bv b1)) (W : World) (hb : Below B w W) => cut_noB b1 n1 hn1 8 8 rfl (by omega) hf S c' hc' B w W h hb (by omega))
  have HB := Lib.hid (two_box w B hB)
  have HB0 := Lib.hid (two_box w _ (Nat.le_refl _))
  have t0 : True := trivial
  have t1 : True := trivial
  clear hn hn1 hs0 hV0 hd0 hf hr
  go_enter Try.func62, Try.ntmps62
  go_wp2
  refine wp_scope_fwd 0 rfl ?_
  go_wp2_with (first
    | (go_at_call 61; have _t := t0; (refine (C0.out _ (HB.out _ _ 0)).mono ?_); rintro e w1 ⟨k1, S1, c1, rfl, rfl, r1, n1', m1'⟩; clear t0 _t)
    | (go_at_call 61; have _t := t1; (refine (C1.out S1 c1 m1' r1 _ (HB.out _ _ _)).mono ?_); rintro e w2 ⟨k2, rfl, rfl⟩; clear t1 _t)
    | fail)
  go_step3
  refine ⟨rfl, ?_⟩
  go_wp2
  rw [jump_ret]
  refine bodyPost_ret (v := .tuple #[zMsg, .bool false]) (by simp [results, Try.results62, go_sem, zMsg]) rfl ⟨?_, rfl⟩
  exact HB0.out _ _ _

set_option maxRecDepth 100000 in
set_option maxHeartbeats 2000000 in
theorem m_2_b (b : List UInt8) (n : Nat) (hn : n = b.length) (A : Option Addr) (c : Nat) (hA : A = none → c = 0) (hc : n ≤ c) (B : Nat) (w : World) (hr : Rd w B A (bv b)) (hB : B ≤ w.heap.size) (hl : n ≤ 16777216) (b1 : List UInt8) (n1 : Nat) (hn1 : n1 = b1.length) (hs0 : n = 1 + n1) (hV0 : 2 = IntKind.i64.wrap (be (b.take 1))) (hd0 : b1 = b.drop 1) (v1 : Int) (b2 : List UInt8) (n2 : Nat) (hn2 : n2 = b2.length) (hs1 : n1 = 8 + n2) (hV1 : v1 = IntKind.i64.wrap (be (b1.take 8))) (hd1 : b2 = b1.drop 8) (hf : n2 < 8) :
    Calls Try.prog 62 #[.slice A n c] w (MsgOut w none) := by
  have C0 := Lib.hid (fun (W : World) (hb : Below B w W) => cut_okB b n hn 1 1 rfl (by omega) n1 hs0 2 hV0 A c hA hc B w W hr hb (Nat.le_trans hl (by decide)))
  rw [← hd0] at C0
  have C1 := Lib.hid (fun (S : Option Addr) (c' : Nat) (hS : S = none → c' = 0) (hc' : n1 ≤ c') (h : Rd w B S (bv b1)) (W : World) (hb : Below B w W) => cut_okB b1 n1 hn1 8 8 rfl (by omega) n2 hs1 v1 hV1 S c' hS hc' B w W h hb (by omega))
  rw [← hd1] at C1
  have C2 := Lib.hid (fun (S : Option Addr) (c' : Nat) (hc' : n2 ≤ c') (h : Rd w B S (bv b2)) (W : World) (hb : Below B w W) => cut_noB b2 n2 hn2 8 8 rfl (by omega) hf S c' hc' B w W h hb (by omega))
  have HB := Lib.hid (two_box w B hB)
  have HB0 := Lib.hid (two_box w _ (Nat.le_refl _))
  have t0 : True := trivial
  have t1 : True := trivial
  have t2 : True := trivial
  clear hn hn1 hs0 hV0 hd0 hn2 hs1 hV1 hd1 hf hr
  go_enter Try.func62, Try.ntmps62
  go_wp2
  refine wp_scope_fwd 0 rfl ?_
  go_wp2_with (first
    | (go_at_call 61; have _t := t0; (refine (C0.out _ (HB.out _ _ 0)).mono ?_); rintro e w1 ⟨k1, S1, c1, rfl, rfl, r1, n1', m1'⟩; clear t0 _t)
    | (go_at_call 61; have _t := t1; (refine (C1.out S1 c1 n1' m1' r1 _ (HB.out _ _ _)).mono ?_); rintro e w2 ⟨k2, S2, c2, rfl, rfl, r2, n2', m2'⟩; clear t1 _t)
    | (go_at_call 61; have _t := t2; (refine (C2.out S2 c2 m2' r2 _ (HB.out _ _ _)).mono ?_); rintro e w3 ⟨k3, rfl, rfl⟩; clear t2 _t)
    | fail)
  go_step3
  refine ⟨rfl, ?_⟩
  go_wp2
  rw [jump_ret]
  refine bodyPost_ret (v := .tuple #[zMsg, .bool false]) (by simp [results, Try.results62, go_sem, zMsg]) rfl ⟨?_, rfl⟩
  exact HB0.out _ _ _

set_option maxRecDepth 100000 in
set_option maxHeartbeats 2000000 in
theorem m_2_c (b : List UInt8) (n : Nat) (hn : n = b.length) (A : Option Addr) (c : Nat) (hA : A = none → c = 0) (hc : n ≤ c) (B : Nat) (w : World) (hr : Rd w B A (bv b)) (hB : B ≤ w.heap.size) (hl : n ≤ 16777216) (b1 : List UInt8) (n1 : Nat) (hn1 : n1 = b1.length) (hs0 : n = 1 + n1) (hV0 : 2 = IntKind.i64.wrap (be (b.take 1))) (hd0 : b1 = b.drop 1) (v1 : Int) (b2 : List UInt8) (n2 : Nat) (hn2 : n2 = b2.length) (hs1 : n1 = 8 + n2) (hV1 : v1 = IntKind.i64.wrap (be (b1.take 8))) (hd1 : b2 = b1.drop 8) (v2 : Int) (b3 : List UInt8) (n3 : Nat) (hn3 : n3 = b3.length) (hs2 : n2 = 8 + n3) (hV2 : v2 = IntKind.i64.wrap (be (b2.take 8))) (hd2 : b3 = b2.drop 8) (hf : n3 < 8) :
    Calls Try.prog 62 #[.slice A n c] w (MsgOut w none) := by
  have C0 := Lib.hid (fun (W : World) (hb : Below B w W) => cut_okB b n hn 1 1 rfl (by omega) n1 hs0 2 hV0 A c hA hc B w W hr hb (Nat.le_trans hl (by decide)))
  rw [← hd0] at C0
  have C1 := Lib.hid (fun (S : Option Addr) (c' : Nat) (hS : S = none → c' = 0) (hc' : n1 ≤ c') (h : Rd w B S (bv b1)) (W : World) (hb : Below B w W) => cut_okB b1 n1 hn1 8 8 rfl (by omega) n2 hs1 v1 hV1 S c' hS hc' B w W h hb (by omega))
  rw [← hd1] at C1
  have C2 := Lib.hid (fun (S : Option Addr) (c' : Nat) (hS : S = none → c' = 0) (hc' : n2 ≤ c') (h : Rd w B S (bv b2)) (W : World) (hb : Below B w W) => cut_okB b2 n2 hn2 8 8 rfl (by omega) n3 hs2 v2 hV2 S c' hS hc' B w W h hb (by omega))
  rw [← hd2] at C2
  have C3 := Lib.hid (fun (S : Option Addr) (c' : Nat) (hc' : n3 ≤ c') (h : Rd w B S (bv b3)) (W : World) (hb : Below B w W) => cut_noB b3 n3 hn3 8 8 rfl (by omega) hf S c' hc' B w W h hb (by omega))
  have HB := Lib.hid (two_box w B hB)
  have HB0 := Lib.hid (two_box w _ (Nat.le_refl _))
  have t0 : True := trivial
  have t1 : True := trivial
  have t2 : True := trivial
  have t3 : True := trivial
  clear hn hn1 hs0 hV0 hd0 hn2 hs1 hV1 hd1 hn3 hs2 hV2 hd2 hf hr
  go_enter Try.func62, Try.ntmps62
  go_wp2
  refine wp_scope_fwd 0 rfl ?_
  go_wp2_with (first
    | (go_at_call 61; have _t := t0; (refine (C0.out _ (HB.out _ _ 0)).mono ?_); rintro e w1 ⟨k1, S1, c1, rfl, rfl, r1, n1', m1'⟩; clear t0 _t)
    | (go_at_call 61; have _t := t1; (refine (C1.out S1 c1 n1' m1' r1 _ (HB.out _ _ _)).mono ?_); rintro e w2 ⟨k2, S2, c2, rfl, rfl, r2, n2', m2'⟩; clear t1 _t)
    | (go_at_call 61; have _t := t2; (refine (C2.out S2 c2 n2' m2' r2 _ (HB.out _ _ _)).mono ?_); rintro e w3 ⟨k3, S3, c3, rfl, rfl, r3, n3', m3'⟩; clear t2 _t)
    | (go_at_call 61; have _t := t3; (refine (C3.out S3 c3 m3' r3 _ (HB.out _ _ _)).mono ?_); rintro e w4 ⟨k4, rfl, rfl⟩; clear t3 _t)
    | fail)
  go_step3
  refine ⟨rfl, ?_⟩
  go_wp2
  rw [jump_ret]
  refine bodyPost_ret (v := .tuple #[zMsg, .bool false]) (by simp [results, Try.results62, go_sem, zMsg]) rfl ⟨?_, rfl⟩
  exact HB0.out _ _ _

set_option maxRecDepth 100000 in
set_option maxHeartbeats 2000000 in
theorem m_2_d (b : List UInt8) (n : Nat) (hn : n = b.length) (A : Option Addr) (c : Nat) (hA : A = none → c = 0) (hc : n ≤ c) (B : Nat) (w : World) (hr : Rd w B A (bv b)) (hB : B ≤ w.heap.size) (hl : n ≤ 16777216) (b1 : List UInt8) (n1 : Nat) (hn1 : n1 = b1.length) (hs0 : n = 1 + n1) (hV0 : 2 = IntKind.i64.wrap (be (b.take 1))) (hd0 : b1 = b.drop 1) (v1 : Int) (b2 : List UInt8) (n2 : Nat) (hn2 : n2 = b2.length) (hs1 : n1 = 8 + n2) (hV1 : v1 = IntKind.i64.wrap (be (b1.take 8))) (hd1 : b2 = b1.drop 8) (v2 : Int) (b3 : List UInt8) (n3 : Nat) (hn3 : n3 = b3.length) (hs2 : n2 = 8 + n3) (hV2 : v2 = IntKind.i64.wrap (be (b2.take 8))) (hd2 : b3 = b2.drop 8) (v3 : Int) (b4 : List UInt8) (n4 : Nat) (hn4 : n4 = b4.length) (hs3 : n3 = 8 + n4) (hV3 : v3 = IntKind.i64.wrap (be (b3.take 8))) (hd3 : b4 = b3.drop 8) (hf : n4 < 4) :
    Calls Try.prog 62 #[.slice A n c] w (MsgOut w none) := by
  have C0 := Lib.hid (fun (W : World) (hb : Below B w W) => cut_okB b n hn 1 1 rfl (by omega) n1 hs0 2 hV0 A c hA hc B w W hr hb (Nat.le_trans hl (by decide)))
  rw [← hd0] at C0
  have C1 := Lib.hid (fun (S : Option Addr) (c' : Nat) (hS : S = none → c' = 0) (hc' : n1 ≤ c') (h : Rd w B S (bv b1)) (W : World) (hb : Below B w W) => cut_okB b1 n1 hn1 8 8 rfl (by omega) n2 hs1 v1 hV1 S c' hS hc' B w W h hb (by omega))
  rw [← hd1] at C1
  have C2 := Lib.hid (fun (S : Option Addr) (c' : Nat) (hS : S = none → c' = 0) (hc' : n2 ≤ c') (h : Rd w B S (bv b2)) (W : World) (hb : Below B w W) => cut_okB b2 n2 hn2 8 8 rfl (by omega) n3 hs2 v2 hV2 S c' hS hc' B w W h hb (by omega))
  rw [← hd2] at C2
  have C3 := Lib.hid (fun (S : Option Addr) (c' : Nat) (hS : S = none → c' = 0) (hc' : n3 ≤ c') (h : Rd w B S (bv b3)) (W : World) (hb : Below B w W) => cut_okB b3 n3 hn3 8 8 rfl (by omega) n4 hs3 v3 hV3 S c' hS hc' B w W h hb (by omega))
  rw [← hd3] at C3
  have C4 := Lib.hid (fun (S : Option Addr) (c' : Nat) (hc' : n4 ≤ c') (h : Rd w B S (bv b4)) (W : World) (hb : Below B w W) => cut_noB b4 n4 hn4 4 4 rfl (by omega) hf S c' hc' B w W h hb (by omega))
  have HB := Lib.hid (two_box w B hB)
  have HB0 := Lib.hid (two_box w _ (Nat.le_refl _))
  have t0 : True := trivial
  have t1 : True := trivial
  have t2 : True := trivial
  have t3 : True := trivial
  have t4 : True := trivial
  clear hn hn1 hs0 hV0 hd0 hn2 hs1 hV1 hd1 hn3 hs2 hV2 hd2 hn4 hs3 hV3 hd3 hf hr
  go_enter Try.func62, Try.ntmps62
  go_wp2
  refine wp_scope_fwd 0 rfl ?_
  go_wp2_with (first
    | (go_at_call 61; have _t := t0; (refine (C0.out _ (HB.out _ _ 0)).mono ?_); rintro e w1 ⟨k1, S1, c1, rfl, rfl, r1, n1', m1'⟩; clear t0 _t)
    | (go_at_call 61; have _t := t1; (refine (C1.out S1 c1 n1' m1' r1 _ (HB.out _ _ _)).mono ?_); rintro e w2 ⟨k2, S2, c2, rfl, rfl, r2, n2', m2'⟩; clear t1 _t)
    | (go_at_call 61; have _t := t2; (refine (C2.out S2 c2 n2' m2' r2 _ (HB.out _ _ _)).mono ?_); rintro e w3 ⟨k3, S3, c3, rfl, rfl, r3, n3', m3'⟩; clear t2 _t)
    | (go_at_call 61; have _t := t3; (refine (C3.out S3 c3 n3' m3' r3 _ (HB.out _ _ _)).mono ?_); rintro e w4 ⟨k4, S4, c4, rfl, rfl, r4, n4', m4'⟩; clear t3 _t)
    | (go_at_call 61; have _t := t4; (refine (C4.out S4 c4 m4' r4 _ (HB.out _ _ _)).mono ?_); rintro e w5 ⟨k5, rfl, rfl⟩; clear t4 _t)
    | fail)
  go_step3
  refine ⟨rfl, ?_⟩
  go_wp2
  rw [jump_ret]
  refine bodyPost_ret (v := .tuple #[zMsg, .bool false]) (by simp [results, Try.results62, go_sem, zMsg]) rfl ⟨?_, rfl⟩
  exact HB0.out _ _ _

set_option maxRecDepth 100000 in
set_option maxHeartbeats 2000000 in
theorem m_2_e (b : List UInt8) (n : Nat) (hn : n = b.length) (A : Option Addr) (c : Nat) (hA : A = none → c = 0) (hc : n ≤ c) (B : Nat) (w : World) (hr : Rd w B A (bv b)) (hB : B ≤ w.heap.size) (hl : n ≤ 16777216) (b1 : List UInt8) (n1 : Nat) (hn1 : n1 = b1.length) (hs0 : n = 1 + n1) (hV0 : 2 = IntKind.i64.wrap (be (b.take 1))) (hd0 : b1 = b.drop 1) (v1 : Int) (b2 : List UInt8) (n2 : Nat) (hn2 : n2 = b2.length) (hs1 : n1 = 8 + n2) (hV1 : v1 = IntKind.i64.wrap (be (b1.take 8))) (hd1 : b2 = b1.drop 8) (v2 : Int) (b3 : List UInt8) (n3 : Nat) (hn3 : n3 = b3.length) (hs2 : n2 = 8 + n3) (hV2 : v2 = IntKind.i64.wrap (be (b2.take 8))) (hd2 : b3 = b2.drop 8) (v3 : Int) (b4 : List UInt8) (n4 : Nat) (hn4 : n4 = b4.length) (hs3 : n3 = 8 + n4) (hV3 : v3 = IntKind.i64.wrap (be (b3.take 8))) (hd3 : b4 = b3.drop 8) (m4 : Nat) (b5 : List UInt8) (n5 : Nat) (hn5 : n5 = b5.length) (hs4 : n4 = 4 + n5) (hV4 : (m4 : Int) = IntKind.i64.wrap (be (b4.take 4))) (hd4 : b5 = b4.drop 4) (hne : ((m4 : Int) != (n5 : Int)) = true) :
    Calls Try.prog 62 #[.slice A n c] w (MsgOut w none) := by
  have C0 := Lib.hid (fun (W : World) (hb : Below B w W) => cut_okB b n hn 1 1 rfl (by omega) n1 hs0 2 hV0 A c hA hc B w W hr hb (Nat.le_trans hl (by decide)))
  rw [← hd0] at C0
  have C1 := Lib.hid (fun (S : Option Addr) (c' : Nat) (hS : S = none → c' = 0) (hc' : n1 ≤ c') (h : Rd w B S (bv b1)) (W : World) (hb : Below B w W) => cut_okB b1 n1 hn1 8 8 rfl (by omega) n2 hs1 v1 hV1 S c' hS hc' B w W h hb (by omega))
  rw [← hd1] at C1
  have C2 := Lib.hid (fun (S : Option Addr) (c' : Nat) (hS : S = none → c' = 0) (hc' : n2 ≤ c') (h : Rd w B S (bv b2)) (W : World) (hb : Below B w W) => cut_okB b2 n2 hn2 8 8 rfl (by omega) n3 hs2 v2 hV2 S c' hS hc' B w W h hb (by omega))
  rw [← hd2] at C2
  have C3 := Lib.hid (fun (S : Option Addr) (c' : Nat) (hS : S = none → c' = 0) (hc' : n3 ≤ c') (h : Rd w B S (bv b3)) (W : World) (hb : Below B w W) => cut_okB b3 n3 hn3 8 8 rfl (by omega) n4 hs3 v3 hV3 S c' hS hc' B w W h hb (by omega))
  rw [← hd3] at C3
  have C4 := Lib.hid (fun (S : Option Addr) (c' : Nat) (hS : S = none → c' = 0) (hc' : n4 ≤ c') (h : Rd w B S (bv b4)) (W : World) (hb : Below B w W) => cut_okB b4 n4 hn4 4 4 rfl (by omega) n5 hs4 (m4 : Int) hV4 S c' hS hc' B w W h hb (by omega))
  rw [← hd4] at C4
  have HL5 := Lib.hid hn5
  have HBB := Lib.hid hB
  have HB := Lib.hid (two_box w B hB)
  have HB0 := Lib.hid (two_box w _ (Nat.le_refl _))
  have t0 : True := trivial
  have t1 : True := trivial
  have t2 : True := trivial
  have t3 : True := trivial
  have t4 : True := trivial
  clear hn hn1 hs0 hV0 hd0 hn2 hs1 hV1 hd1 hn3 hs2 hV2 hd2 hn4 hs3 hV3 hd3 hn5 hs4 hV4 hd4 hr
  go_enter Try.func62, Try.ntmps62
  go_wp2
  refine wp_scope_fwd 0 rfl ?_
  go_wp2_with (first
    | (go_at_call 61; have _t := t0; (refine (C0.out _ (HB.out _ _ 0)).mono ?_); rintro e w1 ⟨k1, S1, c1, rfl, rfl, r1, n1', m1'⟩; clear t0 _t)
    | (go_at_call 61; have _t := t1; (refine (C1.out S1 c1 n1' m1' r1 _ (HB.out _ _ _)).mono ?_); rintro e w2 ⟨k2, S2, c2, rfl, rfl, r2, n2', m2'⟩; clear t1 _t)
    | (go_at_call 61; have _t := t2; (refine (C2.out S2 c2 n2' m2' r2 _ (HB.out _ _ _)).mono ?_); rintro e w3 ⟨k3, S3, c3, rfl, rfl, r3, n3', m3'⟩; clear t2 _t)
    | (go_at_call 61; have _t := t3; (refine (C3.out S3 c3 n3' m3' r3 _ (HB.out _ _ _)).mono ?_); rintro e w4 ⟨k4, S4, c4, rfl, rfl, r4, n4', m4'⟩; clear t3 _t)
    | (go_at_call 61; have _t := t4; (refine (C4.out S4 c4 n4' m4' r4 _ (HB.out _ _ _)).mono ?_); rintro e w5 ⟨k5, S5, c5, rfl, rfl, r5, n5', m5'⟩; clear t4 _t; have cvt := fun (o o' : Obj) (k : Nat) => conv_any (r5.below (two_box w B HBB.out o o' k)) n5 HL5.out c5)
    | fail)
  go_step3
  refine ⟨rfl, ?_⟩
  go_wp2
  rw [jump_ret]
  refine bodyPost_ret (v := .tuple #[zMsg, .bool false]) (by simp [results, Try.results62, go_sem, zMsg]) rfl ⟨?_, rfl⟩
  exact HB0.out _ _ _

set_option maxRecDepth 100000 in
set_option maxHeartbeats 2000000 in
theorem m_2_n (b : List UInt8) (n : Nat) (hn : n = b.length) (A : Option Addr) (c : Nat) (hA : A = none → c = 0) (hc : n ≤ c) (B : Nat) (w : World) (hr : Rd w B A (bv b)) (hB : B ≤ w.heap.size) (hl : n ≤ 16777216) (b1 : List UInt8) (n1 : Nat) (hn1 : n1 = b1.length) (hs0 : n = 1 + n1) (hV0 : 2 = IntKind.i64.wrap (be (b.take 1))) (hd0 : b1 = b.drop 1) (v1 : Int) (b2 : List UInt8) (n2 : Nat) (hn2 : n2 = b2.length) (hs1 : n1 = 8 + n2) (hV1 : v1 = IntKind.i64.wrap (be (b1.take 8))) (hd1 : b2 = b1.drop 8) (v2 : Int) (b3 : List UInt8) (n3 : Nat) (hn3 : n3 = b3.length) (hs2 : n2 = 8 + n3) (hV2 : v2 = IntKind.i64.wrap (be (b2.take 8))) (hd2 : b3 = b2.drop 8) (v3 : Int) (b4 : List UInt8) (n4 : Nat) (hn4 : n4 = b4.length) (hs3 : n3 = 8 + n4) (hV3 : v3 = IntKind.i64.wrap (be (b3.take 8))) (hd3 : b4 = b3.drop 8) (m4 : Nat) (b5 : List UInt8) (n5 : Nat) (hn5 : n5 = b5.length) (hs4 : n4 = 4 + n5) (hV4 : (m4 : Int) = IntKind.i64.wrap (be (b4.take 4))) (hd4 : b5 = b4.drop 4) (hq : paySpec 2 ⟨#[]⟩ (str b5) v3 v2 v1 0 = none) (hne : ((m4 : Int) != (n5 : Int)) = false) :
    Calls Try.prog 62 #[.slice A n c] w (MsgOut w none) := by
  have C0 := Lib.hid (fun (W : World) (hb : Below B w W) => cut_okB b n hn 1 1 rfl (by omega) n1 hs0 2 hV0 A c hA hc B w W hr hb (Nat.le_trans hl (by decide)))
  rw [← hd0] at C0
  have C1 := Lib.hid (fun (S : Option Addr) (c' : Nat) (hS : S = none → c' = 0) (hc' : n1 ≤ c') (h : Rd w B S (bv b1)) (W : World) (hb : Below B w W) => cut_okB b1 n1 hn1 8 8 rfl (by omega) n2 hs1 v1 hV1 S c' hS hc' B w W h hb (by omega))
  rw [← hd1] at C1
  have C2 := Lib.hid (fun (S : Option Addr) (c' : Nat) (hS : S = none → c' = 0) (hc' : n2 ≤ c') (h : Rd w B S (bv b2)) (W : World) (hb : Below B w W) => cut_okB b2 n2 hn2 8 8 rfl (by omega) n3 hs2 v2 hV2 S c' hS hc' B w W h hb (by omega))
  rw [← hd2] at C2
  have C3 := Lib.hid (fun (S : Option Addr) (c' : Nat) (hS : S = none → c' = 0) (hc' : n3 ≤ c') (h : Rd w B S (bv b3)) (W : World) (hb : Below B w W) => cut_okB b3 n3 hn3 8 8 rfl (by omega) n4 hs3 v3 hV3 S c' hS hc' B w W h hb (by omega))
  rw [← hd3] at C3
  have C4 := Lib.hid (fun (S : Option Addr) (c' : Nat) (hS : S = none → c' = 0) (hc' : n4 ≤ c') (h : Rd w B S (bv b4)) (W : World) (hb : Below B w W) => cut_okB b4 n4 hn4 4 4 rfl (by omega) n5 hs4 (m4 : Int) hV4 S c' hS hc' B w W h hb (by omega))
  rw [← hd4] at C4
  have CP := Lib.hid (fun (W : World) => payload_any 2 ⟨#[]⟩ (str b5) v3 v2 v1 0 W)
  rw [hq] at CP
  have HL5 := Lib.hid hn5
  have HBB := Lib.hid hB
  have HB := Lib.hid (two_box w B hB)
  have HB0 := Lib.hid (two_box w _ (Nat.le_refl _))
  have t0 : True := trivial
  have t1 : True := trivial
  have t2 : True := trivial
  have t3 : True := trivial
  have t4 : True := trivial
  clear hn hn1 hs0 hV0 hd0 hn2 hs1 hV1 hd1 hn3 hs2 hV2 hd2 hn4 hs3 hV3 hd3 hn5 hs4 hV4 hd4 hq hr
  go_enter Try.func62, Try.ntmps62
  go_wp2
  refine wp_scope_fwd 0 rfl ?_
  go_wp2_with (first
    | (go_at_call 61; have _t := t0; (refine (C0.out _ (HB.out _ _ 0)).mono ?_); rintro e w1 ⟨k1, S1, c1, rfl, rfl, r1, n1', m1'⟩; clear t0 _t)
    | (go_at_call 61; have _t := t1; (refine (C1.out S1 c1 n1' m1' r1 _ (HB.out _ _ _)).mono ?_); rintro e w2 ⟨k2, S2, c2, rfl, rfl, r2, n2', m2'⟩; clear t1 _t)
    | (go_at_call 61; have _t := t2; (refine (C2.out S2 c2 n2' m2' r2 _ (HB.out _ _ _)).mono ?_); rintro e w3 ⟨k3, S3, c3, rfl, rfl, r3, n3', m3'⟩; clear t2 _t)
    | (go_at_call 61; have _t := t3; (refine (C3.out S3 c3 n3' m3' r3 _ (HB.out _ _ _)).mono ?_); rintro e w4 ⟨k4, S4, c4, rfl, rfl, r4, n4', m4'⟩; clear t3 _t)
    | (go_at_call 61; have _t := t4; (refine (C4.out S4 c4 n4' m4' r4 _ (HB.out _ _ _)).mono ?_); rintro e w5 ⟨k5, S5, c5, rfl, rfl, r5, n5', m5'⟩; clear t4 _t; have cvt := fun (o o' : Obj) (k : Nat) => conv_any (r5.below (two_box w B HBB.out o o' k)) n5 HL5.out c5)
    | (go_at_call 59; (refine (CP.out _).mono ?_); rintro e w9 ⟨b9, v9, rfl⟩; obtain ⟨hz9, hm9, hbw⟩ := boxes_at b9; have m0x := cellAt hm9 (j := 0) rfl; have m1x := cellAt hm9 (j := 1) rfl; have m2x := cellAt hm9 (j := 2) rfl; have m3x := cellAt hm9 (j := 3) rfl; have m4x := cellAt hm9 (j := 4) rfl; have m5x := cellAt hm9 (j := 5) rfl; have m6x := cellAt hm9 (j := 6) rfl; have z0 := cellAt hz9 (j := 0) rfl; have f0 := frozenAt hz9 (j := 0); have z1 := cellAt hz9 (j := 1) rfl; have f1 := frozenAt hz9 (j := 1); have z2 := cellAt hz9 (j := 2) rfl; have f2 := frozenAt hz9 (j := 2); have z3 := cellAt hz9 (j := 3) rfl; have f3 := frozenAt hz9 (j := 3); have z4 := cellAt hz9 (j := 4) rfl; have f4 := frozenAt hz9 (j := 4); have z5 := cellAt hz9 (j := 5) rfl; have f5 := frozenAt hz9 (j := 5); have z6 := cellAt hz9 (j := 6) rfl; have f6 := frozenAt hz9 (j := 6); clear b9 hz9 hm9)
    | fail)
  go_step3
  go_wp2
  rw [jump_ret]
  refine bodyPost_ret (v := .tuple #[zMsg, .bool false]) (by simp [results, Try.results62, go_sem, zMsg, z0, z1, z2, z3, z4, z5, z6]) rfl ⟨?_, rfl⟩
  exact ((((((hbw.setCell (p := ⟨w.heap.size, 0, none⟩) (Nat.le_refl _) _).setCell (p := ⟨w.heap.size, 1, none⟩) (Nat.le_refl _) _).setCell (p := ⟨w.heap.size, 2, none⟩) (Nat.le_refl _) _).setCell (p := ⟨w.heap.size, 3, none⟩) (Nat.le_refl _) _).setCell (p := ⟨w.heap.size, 4, none⟩) (Nat.le_refl _) _).setCell (p := ⟨w.heap.size, 5, none⟩) (Nat.le_refl _) _).setCell (p := ⟨w.heap.size, 6, none⟩) (Nat.le_refl _) _

set_option maxRecDepth 100000 in
set_option maxHeartbeats 2000000 in
theorem m_2_g (b : List UInt8) (n : Nat) (hn : n = b.length) (A : Option Addr) (c : Nat) (hA : A = none → c = 0) (hc : n ≤ c) (B : Nat) (w : World) (hr : Rd w B A (bv b)) (hB : B ≤ w.heap.size) (hl : n ≤ 16777216) (b1 : List UInt8) (n1 : Nat) (hn1 : n1 = b1.length) (hs0 : n = 1 + n1) (hV0 : 2 = IntKind.i64.wrap (be (b.take 1))) (hd0 : b1 = b.drop 1) (v1 : Int) (b2 : List UInt8) (n2 : Nat) (hn2 : n2 = b2.length) (hs1 : n1 = 8 + n2) (hV1 : v1 = IntKind.i64.wrap (be (b1.take 8))) (hd1 : b2 = b1.drop 8) (v2 : Int) (b3 : List UInt8) (n3 : Nat) (hn3 : n3 = b3.length) (hs2 : n2 = 8 + n3) (hV2 : v2 = IntKind.i64.wrap (be (b2.take 8))) (hd2 : b3 = b2.drop 8) (v3 : Int) (b4 : List UInt8) (n4 : Nat) (hn4 : n4 = b4.length) (hs3 : n3 = 8 + n4) (hV3 : v3 = IntKind.i64.wrap (be (b3.take 8))) (hd3 : b4 = b3.drop 8) (m4 : Nat) (b5 : List UInt8) (n5 : Nat) (hn5 : n5 = b5.length) (hs4 : n4 = 4 + n5) (hV4 : (m4 : Int) = IntKind.i64.wrap (be (b4.take 4))) (hd4 : b5 = b4.drop 4) (q : List UInt8) (hq : paySpec 2 ⟨#[]⟩ (str b5) v3 v2 v1 0 = some q) (hne : ((m4 : Int) != (n5 : Int)) = false) :
    Calls Try.prog 62 #[.slice A n c] w (MsgOut w (some ⟨2, ⟨#[]⟩, v3, v2, v1, 0, str b5⟩)) := by
  have C0 := Lib.hid (fun (W : World) (hb : Below B w W) => cut_okB b n hn 1 1 rfl (by omega) n1 hs0 2 hV0 A c hA hc B w W hr hb (Nat.le_trans hl (by decide)))
  rw [← hd0] at C0
  have C1 := Lib.hid (fun (S : Option Addr) (c' : Nat) (hS : S = none → c' = 0) (hc' : n1 ≤ c') (h : Rd w B S (bv b1)) (W : World) (hb : Below B w W) => cut_okB b1 n1 hn1 8 8 rfl (by omega) n2 hs1 v1 hV1 S c' hS hc' B w W h hb (by omega))
  rw [← hd1] at C1
  have C2 := Lib.hid (fun (S : Option Addr) (c' : Nat) (hS : S = none → c' = 0) (hc' : n2 ≤ c') (h : Rd w B S (bv b2)) (W : World) (hb : Below B w W) => cut_okB b2 n2 hn2 8 8 rfl (by omega) n3 hs2 v2 hV2 S c' hS hc' B w W h hb (by omega))
  rw [← hd2] at C2
  have C3 := Lib.hid (fun (S : Option Addr) (c' : Nat) (hS : S = none → c' = 0) (hc' : n3 ≤ c') (h : Rd w B S (bv b3)) (W : World) (hb : Below B w W) => cut_okB b3 n3 hn3 8 8 rfl (by omega) n4 hs3 v3 hV3 S c' hS hc' B w W h hb (by omega))
  rw [← hd3] at C3
  have C4 := Lib.hid (fun (S : Option Addr) (c' : Nat) (hS : S = none → c' = 0) (hc' : n4 ≤ c') (h : Rd w B S (bv b4)) (W : World) (hb : Below B w W) => cut_okB b4 n4 hn4 4 4 rfl (by omega) n5 hs4 (m4 : Int) hV4 S c' hS hc' B w W h hb (by omega))
  rw [← hd4] at C4
  have CP := Lib.hid (fun (W : World) => payload_any 2 ⟨#[]⟩ (str b5) v3 v2 v1 0 W)
  rw [hq] at CP
  have HL5 := Lib.hid hn5
  have HBB := Lib.hid hB
  have HB := Lib.hid (two_box w B hB)
  have HB0 := Lib.hid (two_box w _ (Nat.le_refl _))
  have t0 : True := trivial
  have t1 : True := trivial
  have t2 : True := trivial
  have t3 : True := trivial
  have t4 : True := trivial
  clear hn hn1 hs0 hV0 hd0 hn2 hs1 hV1 hd1 hn3 hs2 hV2 hd2 hn4 hs3 hV3 hd3 hn5 hs4 hV4 hd4 hq hr
  go_enter Try.func62, Try.ntmps62
  go_wp2
  refine wp_scope_fwd 0 rfl ?_
  go_wp2_with (first
    | (go_at_call 61; have _t := t0; (refine (C0.out _ (HB.out _ _ 0)).mono ?_); rintro e w1 ⟨k1, S1, c1, rfl, rfl, r1, n1', m1'⟩; clear t0 _t)
    | (go_at_call 61; have _t := t1; (refine (C1.out S1 c1 n1' m1' r1 _ (HB.out _ _ _)).mono ?_); rintro e w2 ⟨k2, S2, c2, rfl, rfl, r2, n2', m2'⟩; clear t1 _t)
    | (go_at_call 61; have _t := t2; (refine (C2.out S2 c2 n2' m2' r2 _ (HB.out _ _ _)).mono ?_); rintro e w3 ⟨k3, S3, c3, rfl, rfl, r3, n3', m3'⟩; clear t2 _t)
    | (go_at_call 61; have _t := t3; (refine (C3.out S3 c3 n3' m3' r3 _ (HB.out _ _ _)).mono ?_); rintro e w4 ⟨k4, S4, c4, rfl, rfl, r4, n4', m4'⟩; clear t3 _t)
    | (go_at_call 61; have _t := t4; (refine (C4.out S4 c4 n4' m4' r4 _ (HB.out _ _ _)).mono ?_); rintro e w5 ⟨k5, S5, c5, rfl, rfl, r5, n5', m5'⟩; clear t4 _t; have cvt := fun (o o' : Obj) (k : Nat) => conv_any (r5.below (two_box w B HBB.out o o' k)) n5 HL5.out c5)
    | (go_at_call 59; (refine (CP.out _).mono ?_); rintro e w9 ⟨b9, A9, c9, rfl, h9⟩; obtain ⟨hz9, hm9, hbw⟩ := boxes_at b9; have m0x := cellAt hm9 (j := 0) rfl; have m1x := cellAt hm9 (j := 1) rfl; have m2x := cellAt hm9 (j := 2) rfl; have m3x := cellAt hm9 (j := 3) rfl; have m4x := cellAt hm9 (j := 4) rfl; have m5x := cellAt hm9 (j := 5) rfl; have m6x := cellAt hm9 (j := 6) rfl; have z0 := cellAt hz9 (j := 0) rfl; have f0 := frozenAt hz9 (j := 0); have z1 := cellAt hz9 (j := 1) rfl; have f1 := frozenAt hz9 (j := 1); have z2 := cellAt hz9 (j := 2) rfl; have f2 := frozenAt hz9 (j := 2); have z3 := cellAt hz9 (j := 3) rfl; have f3 := frozenAt hz9 (j := 3); have z4 := cellAt hz9 (j := 4) rfl; have f4 := frozenAt hz9 (j := 4); have z5 := cellAt hz9 (j := 5) rfl; have f5 := frozenAt hz9 (j := 5); have z6 := cellAt hz9 (j := 6) rfl; have f6 := frozenAt hz9 (j := 6); clear b9 hz9 hm9)
    | fail)
  rw [jump_ret]
  refine bodyPost_ret (v := .tuple #[msgV ⟨2, ⟨#[]⟩, v3, v2, v1, 0, str b5⟩, .bool true]) (by simp [results, Try.results62, go_sem, msgV, z0, z1, z2, z3, z4, z5, z6]) rfl ⟨?_, rfl⟩
  exact ((((((hbw.setCell (p := ⟨w.heap.size, 0, none⟩) (Nat.le_refl _) _).setCell (p := ⟨w.heap.size, 1, none⟩) (Nat.le_refl _) _).setCell (p := ⟨w.heap.size, 2, none⟩) (Nat.le_refl _) _).setCell (p := ⟨w.heap.size, 3, none⟩) (Nat.le_refl _) _).setCell (p := ⟨w.heap.size, 4, none⟩) (Nat.le_refl _) _).setCell (p := ⟨w.heap.size, 5, none⟩) (Nat.le_refl _) _).setCell (p := ⟨w.heap.size, 6, none⟩) (Nat.le_refl _) _

set_option maxRecDepth 100000 in
set_option maxHeartbeats 2000000 in
theorem m_1_a (b : List UInt8) (n : Nat) (hn : n = b.length) (A : Option Addr) (c : Nat) (hA : A = none → c = 0) (hc : n ≤ c) (B : Nat) (w : World) (hr : Rd w B A (bv b)) (hB : B ≤ w.heap.size) (hl : n ≤ 16777216) (b1 : List UInt8) (n1 : Nat) (hn1 : n1 = b1.length) (hs0 : n = 1 + n1) (hV0 : 1 = IntKind.i64.wrap (be (b.take 1))) (hd0 : b1 = b.drop 1) (hf : n1 < 1) :
    Calls Try.prog 62 #[.slice A n c] w (MsgOut w none) := by
  have C0 := Lib.hid (fun (W : World) (hb : Below B w W) => cut_okB b n hn 1 1 rfl (by omega) n1 hs0 1 hV0 A c hA hc B w W hr hb (Nat.le_trans hl (by decide)))
  rw [← hd0] at C0
  have C1 := Lib.hid (fun (S : Option Addr) (c' : Nat) (hc' : n1 ≤ c') (h : Rd w B S (bv b1)) (W : World) (hb : Below B w W) => cut_noB b1 n1 hn1 1 1 rfl (by omega) hf S c' hc' B w W h hb (by omega))
  have HB := Lib.hid (two_box w B hB)
  have HB0 := Lib.hid (two_box w _ (Nat.le_refl _))
  have t0 : True := trivial
  have t1 : True := trivial
  clear hn hn1 hs0 hV0 hd0 hf hr
  go_enter Try.func62, Try.ntmps62
  go_wp2
  refine wp_scope_fwd 0 rfl ?_
  go_wp2_with (first
    | (go_at_call 61; have _t := t0; (refine (C0.out _ (HB.out _ _ 0)).mono ?_); rintro e w1 ⟨k1, S1, c1, rfl, rfl, r1, n1', m1'⟩; clear t0 _t)
    | (go_at_call 61; have _t := t1; (refine (C1.out S1 c1 m1' r1 _ (HB.out _ _ _)).mono ?_); rintro e w2 ⟨k2, rfl, rfl⟩; clear t1 _t)
    | fail)
  go_step3
  refine ⟨rfl, ?_⟩
  go_wp2
  rw [jump_ret]
  refine bodyPost_ret (v := .tuple #[zMsg, .bool false]) (by simp [results, Try.results62, go_sem, zMsg]) rfl ⟨?_, rfl⟩
  exact HB0.out _ _ _

set_option maxRecDepth 100000 in
set_option maxHeartbeats 2000000 in
theorem m_1_b (b : List UInt8) (n : Nat) (hn : n = b.length) (A : Option Addr) (c : Nat) (hA : A = none → c = 0) (hc : n ≤ c) (B : Nat) (w : World) (hr : Rd w B A (bv b)) (hB : B ≤ w.heap.size) (hl : n ≤ 16777216) (b1 : List UInt8) (n1 : Nat) (hn1 : n1 = b1.length) (hs0 : n = 1 + n1) (hV0 : 1 = IntKind.i64.wrap (be (b.take 1))) (hd0 : b1 = b.drop 1) (m1 : Nat) (b2 : List UInt8) (n2 : Nat) (hn2 : n2 = b2.length) (hs1 : n1 = 1 + n2) (hV1 : (m1 : Int) = IntKind.i64.wrap (be (b1.take 1))) (hd1 : b2 = b1.drop 1) (hgt : (n2 : Int) < (m1 : Int)) :
    Calls Try.prog 62 #[.slice A n c] w (MsgOut w none) := by
  have C0 := Lib.hid (fun (W : World) (hb : Below B w W) => cut_okB b n hn 1 1 rfl (by omega) n1 hs0 1 hV0 A c hA hc B w W hr hb (Nat.le_trans hl (by decide)))
  rw [← hd0] at C0
  have C1 := Lib.hid (fun (S : Option Addr) (c' : Nat) (hS : S = none → c' = 0) (hc' : n1 ≤ c') (h : Rd w B S (bv b1)) (W : World) (hb : Below B w W) => cut_okB b1 n1 hn1 1 1 rfl (by omega) n2 hs1 (m1 : Int) hV1 S c' hS hc' B w W h hb (by omega))
  rw [← hd1] at C1
  have HB := Lib.hid (two_box w B hB)
  have HB0 := Lib.hid (two_box w _ (Nat.le_refl _))
  have t0 : True := trivial
  have t1 : True := trivial
  clear hn hn1 hs0 hV0 hd0 hn2 hs1 hV1 hd1 hr
  go_enter Try.func62, Try.ntmps62
  go_wp2
  refine wp_scope_fwd 0 rfl ?_
  go_wp2_with (first
    | (go_at_call 61; have _t := t0; (refine (C0.out _ (HB.out _ _ 0)).mono ?_); rintro e w1 ⟨k1, S1, c1, rfl, rfl, r1, n1', m1'⟩; clear t0 _t)
    | (go_at_call 61; have _t := t1; (refine (C1.out S1 c1 n1' m1' r1 _ (HB.out _ _ _)).mono ?_); rintro e w2 ⟨k2, S2, c2, rfl, rfl, r2, n2', m2'⟩; clear t1 _t)
    | fail)
  go_step3
  refine ⟨rfl, ?_⟩
  go_wp2
  rw [jump_ret]
  refine bodyPost_ret (v := .tuple #[zMsg, .bool false]) (by simp [results, Try.results62, go_sem, zMsg]) rfl ⟨?_, rfl⟩
  exact HB0.out _ _ _

set_option maxRecDepth 100000 in
set_option maxHeartbeats 2000000 in
theorem m_1_c (b : List UInt8) (n : Nat) (hn : n = b.length) (A : Option Addr) (c : Nat) (hA : A = none → c = 0) (hc : n ≤ c) (B : Nat) (w : World) (hr : Rd w B A (bv b)) (hB : B ≤ w.heap.size) (hl : n ≤ 16777216) (b1 : List UInt8) (n1 : Nat) (hn1 : n1 = b1.length) (hs0 : n = 1 + n1) (hV0 : 1 = IntKind.i64.wrap (be (b.take 1))) (hd0 : b1 = b.drop 1) (m1 : Nat) (b2 : List UInt8) (n2 : Nat) (hn2 : n2 = b2.length) (hs1 : n1 = 1 + n2) (hV1 : (m1 : Int) = IntKind.i64.wrap (be (b1.take 1))) (hd1 : b2 = b1.drop 1) (b9 : List UInt8) (n9 : Nat) (hn9 : n9 = b9.length) (hm : n2 = m1 + n9) (hdn : b9 = b2.drop m1) (hf : n9 < 8) :
    Calls Try.prog 62 #[.slice A n c] w (MsgOut w none) := by
  have C0 := Lib.hid (fun (W : World) (hb : Below B w W) => cut_okB b n hn 1 1 rfl (by omega) n1 hs0 1 hV0 A c hA hc B w W hr hb (Nat.le_trans hl (by decide)))
  rw [← hd0] at C0
  have C1 := Lib.hid (fun (S : Option Addr) (c' : Nat) (hS : S = none → c' = 0) (hc' : n1 ≤ c') (h : Rd w B S (bv b1)) (W : World) (hb : Below B w W) => cut_okB b1 n1 hn1 1 1 rfl (by omega) n2 hs1 (m1 : Int) hV1 S c' hS hc' B w W h hb (by omega))
  rw [← hd1] at C1
  have C2 := Lib.hid (fun (S : Option Addr) (c' : Nat) (hc' : n9 ≤ c') (h : Rd w B S (bv b9)) (W : World) (hb : Below B w W) => cut_noB b9 n9 hn9 8 8 rfl (by omega) hf S c' hc' B w W h hb (by omega))
  have HBB := Lib.hid hB
  have HCV := Lib.hid (fun (S : Option Addr) (h : Rd w B S (bv b2)) => show Rd w B S (bv (b2.take m1)) by have := h.take m1; simpa [bv, List.map_take] using this)
  have HL2 := Lib.hid hn2
  have HDN := Lib.hid hdn
  have hmn : ¬ (n2 : Int) < (m1 : Int) := by omega
  have HML := Lib.hid (show m1 = (b2.take m1).length by rw [List.length_take]; omega)
  have hm0 : (0 : Int) ≤ (m1 : Int) := Int.natCast_nonneg _
  have HB := Lib.hid (two_box w B hB)
  have HB0 := Lib.hid (two_box w _ (Nat.le_refl _))
  have t0 : True := trivial
  have t1 : True := trivial
  have t2 : True := trivial
  clear hn hn1 hs0 hV0 hd0 hn2 hs1 hV1 hd1 hn9 hdn hf hr
  go_enter Try.func62, Try.ntmps62
  go_wp2
  refine wp_scope_fwd 0 rfl ?_
  go_upto_region 10 with (first
    | (go_at_call 61; have _t := t0; (refine (C0.out _ (HB.out _ _ 0)).mono ?_); rintro e w1 ⟨k1, S1, c1, rfl, rfl, r1, n1', m1'⟩; clear t0 _t)
    | (go_at_call 61; have _t := t1; (refine (C1.out S1 c1 n1' m1' r1 _ (HB.out _ _ _)).mono ?_); rintro e w2 ⟨k2, S2, c2, rfl, rfl, r2, n2', m2'⟩; clear t1 _t; obtain ⟨SN, hSN⟩ : ∃ SN, SN = (if c2 = m1 then S2 else S2.map (·.add m1)) := ⟨_, rfl⟩; have hSN2 := hSN.symm; have hrn : Rd w B SN (bv b9) := (by (have h1 := r2.cut m1 c2 (by rw [bv_length]; have := HL2.out; omega)); rw [← hSN] at h1; rw [HDN.out]; simpa [bv, List.map_drop] using h1); have HNr := Lib.hid hrn; have HNn := Lib.hid (name_none n2' hSN); have HNc := Lib.hid (show n9 ≤ c2 - m1 by omega); have cvn := fun (o o' : Obj) (k : Nat) => conv_any ((HCV.out S2 r2).below (two_box w B HBB.out o o' k)) m1 HML.out c2; have hmc : (m1 : Int) ≤ (c2 : Int) := (by omega); clear hSN hrn)
    | (go_at_call 61; have _t := t2; (refine (C2.out SN (c2 - m1) HNc.out HNr.out _ (HB.out _ _ _)).mono ?_); rintro e w3 ⟨k3, rfl, rfl⟩; clear t2 _t)
    | fail)
  go_region
  go_wp2_with (first
    | (go_at_call 61; have _t := t0; (refine (C0.out _ (HB.out _ _ 0)).mono ?_); rintro e w1 ⟨k1, S1, c1, rfl, rfl, r1, n1', m1'⟩; clear t0 _t)
    | (go_at_call 61; have _t := t1; (refine (C1.out S1 c1 n1' m1' r1 _ (HB.out _ _ _)).mono ?_); rintro e w2 ⟨k2, S2, c2, rfl, rfl, r2, n2', m2'⟩; clear t1 _t; obtain ⟨SN, hSN⟩ : ∃ SN, SN = (if c2 = m1 then S2 else S2.map (·.add m1)) := ⟨_, rfl⟩; have hSN2 := hSN.symm; have hrn : Rd w B SN (bv b9) := (by (have h1 := r2.cut m1 c2 (by rw [bv_length]; have := HL2.out; omega)); rw [← hSN] at h1; rw [HDN.out]; simpa [bv, List.map_drop] using h1); have HNr := Lib.hid hrn; have HNn := Lib.hid (name_none n2' hSN); have HNc := Lib.hid (show n9 ≤ c2 - m1 by omega); have cvn := fun (o o' : Obj) (k : Nat) => conv_any ((HCV.out S2 r2).below (two_box w B HBB.out o o' k)) m1 HML.out c2; have hmc : (m1 : Int) ≤ (c2 : Int) := (by omega); clear hSN hrn)
    | (go_at_call 61; have _t := t2; (refine (C2.out SN (c2 - m1) HNc.out HNr.out _ (HB.out _ _ _)).mono ?_); rintro e w3 ⟨k3, rfl, rfl⟩; clear t2 _t)
    | fail)
  go_step3
  refine ⟨rfl, ?_⟩
  go_wp2
  rw [jump_ret]
  refine bodyPost_ret (v := .tuple #[zMsg, .bool false]) (by simp [results, Try.results62, go_sem, zMsg]) rfl ⟨?_, rfl⟩
  exact HB0.out _ _ _

set_option maxRecDepth 100000 in
set_option maxHeartbeats 2000000 in
theorem m_1_n (b : List UInt8) (n : Nat) (hn : n = b.length) (A : Option Addr) (c : Nat) (hA : A = none → c = 0) (hc : n ≤ c) (B : Nat) (w : World) (hr : Rd w B A (bv b)) (hB : B ≤ w.heap.size) (hl : n ≤ 16777216) (b1 : List UInt8) (n1 : Nat) (hn1 : n1 = b1.length) (hs0 : n = 1 + n1) (hV0 : 1 = IntKind.i64.wrap (be (b.take 1))) (hd0 : b1 = b.drop 1) (m1 : Nat) (b2 : List UInt8) (n2 : Nat) (hn2 : n2 = b2.length) (hs1 : n1 = 1 + n2) (hV1 : (m1 : Int) = IntKind.i64.wrap (be (b1.take 1))) (hd1 : b2 = b1.drop 1) (b9 : List UInt8) (n9 : Nat) (hn9 : n9 = b9.length) (hm : n2 = m1 + n9) (hdn : b9 = b2.drop m1) (v2 : Int) (b3 : List UInt8) (n3 : Nat) (hn3 : n3 = b3.length) (hs2 : n9 = 8 + n3) (hV2 : v2 = IntKind.i64.wrap (be (b9.take 8))) (hd2 : b3 = b9.drop 8) (hq : paySpec 1 (str (b2.take m1)) ⟨#[]⟩ v2 0 0 0 = none) :
    Calls Try.prog 62 #[.slice A n c] w (MsgOut w none) := by
  have C0 := Lib.hid (fun (W : World) (hb : Below B w W) => cut_okB b n hn 1 1 rfl (by omega) n1 hs0 1 hV0 A c hA hc B w W hr hb (Nat.le_trans hl (by decide)))
  rw [← hd0] at C0
  have C1 := Lib.hid (fun (S : Option Addr) (c' : Nat) (hS : S = none → c' = 0) (hc' : n1 ≤ c') (h : Rd w B S (bv b1)) (W : World) (hb : Below B w W) => cut_okB b1 n1 hn1 1 1 rfl (by omega) n2 hs1 (m1 : Int) hV1 S c' hS hc' B w W h hb (by omega))
  rw [← hd1] at C1
  have C2 := Lib.hid (fun (S : Option Addr) (c' : Nat) (hS : S = none → c' = 0) (hc' : n9 ≤ c') (h : Rd w B S (bv b9)) (W : World) (hb : Below B w W) => cut_okB b9 n9 hn9 8 8 rfl (by omega) n3 hs2 v2 hV2 S c' hS hc' B w W h hb (by omega))
  rw [← hd2] at C2
  have CP := Lib.hid (fun (W : World) => payload_any 1 (str (b2.take m1)) ⟨#[]⟩ v2 0 0 0 W)
  rw [hq] at CP
  have HBB := Lib.hid hB
  have HCV := Lib.hid (fun (S : Option Addr) (h : Rd w B S (bv b2)) => show Rd w B S (bv (b2.take m1)) by have := h.take m1; simpa [bv, List.map_take] using this)
  have HL2 := Lib.hid hn2
  have HDN := Lib.hid hdn
  have hmn : ¬ (n2 : Int) < (m1 : Int) := by omega
  have HML := Lib.hid (show m1 = (b2.take m1).length by rw [List.length_take]; omega)
  have hm0 : (0 : Int) ≤ (m1 : Int) := Int.natCast_nonneg _
  have HB := Lib.hid (two_box w B hB)
  have HB0 := Lib.hid (two_box w _ (Nat.le_refl _))
  have t0 : True := trivial
  have t1 : True := trivial
  have t2 : True := trivial
  clear hn hn1 hs0 hV0 hd0 hn2 hs1 hV1 hd1 hn9 hdn hn3 hs2 hV2 hd2 hq hr
  go_enter Try.func62, Try.ntmps62
  go_wp2
  refine wp_scope_fwd 0 rfl ?_
  go_upto_region 10 with (first
    | (go_at_call 61; have _t := t0; (refine (C0.out _ (HB.out _ _ 0)).mono ?_); rintro e w1 ⟨k1, S1, c1, rfl, rfl, r1, n1', m1'⟩; clear t0 _t)
    | (go_at_call 61; have _t := t1; (refine (C1.out S1 c1 n1' m1' r1 _ (HB.out _ _ _)).mono ?_); rintro e w2 ⟨k2, S2, c2, rfl, rfl, r2, n2', m2'⟩; clear t1 _t; obtain ⟨SN, hSN⟩ : ∃ SN, SN = (if c2 = m1 then S2 else S2.map (·.add m1)) := ⟨_, rfl⟩; have hSN2 := hSN.symm; have hrn : Rd w B SN (bv b9) := (by (have h1 := r2.cut m1 c2 (by rw [bv_length]; have := HL2.out; omega)); rw [← hSN] at h1; rw [HDN.out]; simpa [bv, List.map_drop] using h1); have HNr := Lib.hid hrn; have HNn := Lib.hid (name_none n2' hSN); have HNc := Lib.hid (show n9 ≤ c2 - m1 by omega); have cvn := fun (o o' : Obj) (k : Nat) => conv_any ((HCV.out S2 r2).below (two_box w B HBB.out o o' k)) m1 HML.out c2; have hmc : (m1 : Int) ≤ (c2 : Int) := (by omega); clear hSN hrn)
    | (go_at_call 61; have _t := t2; (refine (C2.out SN (c2 - m1) (HNn.out) HNc.out HNr.out _ (HB.out _ _ _)).mono ?_); rintro e w3 ⟨k3, S3, c3, rfl, rfl, r3, n3', m3'⟩; clear t2 _t)
    | (go_at_call 59; (refine (CP.out _).mono ?_); rintro e w9 ⟨b9, v9, rfl⟩; obtain ⟨hz9, hm9, hbw⟩ := boxes_at b9; have m0x := cellAt hm9 (j := 0) rfl; have m1x := cellAt hm9 (j := 1) rfl; have m2x := cellAt hm9 (j := 2) rfl; have m3x := cellAt hm9 (j := 3) rfl; have m4x := cellAt hm9 (j := 4) rfl; have m5x := cellAt hm9 (j := 5) rfl; have m6x := cellAt hm9 (j := 6) rfl; have z0 := cellAt hz9 (j := 0) rfl; have f0 := frozenAt hz9 (j := 0); have z1 := cellAt hz9 (j := 1) rfl; have f1 := frozenAt hz9 (j := 1); have z2 := cellAt hz9 (j := 2) rfl; have f2 := frozenAt hz9 (j := 2); have z3 := cellAt hz9 (j := 3) rfl; have f3 := frozenAt hz9 (j := 3); have z4 := cellAt hz9 (j := 4) rfl; have f4 := frozenAt hz9 (j := 4); have z5 := cellAt hz9 (j := 5) rfl; have f5 := frozenAt hz9 (j := 5); have z6 := cellAt hz9 (j := 6) rfl; have f6 := frozenAt hz9 (j := 6); clear b9 hz9 hm9)
    | fail)
  go_region
  go_wp2_with (first
    | (go_at_call 61; have _t := t0; (refine (C0.out _ (HB.out _ _ 0)).mono ?_); rintro e w1 ⟨k1, S1, c1, rfl, rfl, r1, n1', m1'⟩; clear t0 _t)
    | (go_at_call 61; have _t := t1; (refine (C1.out S1 c1 n1' m1' r1 _ (HB.out _ _ _)).mono ?_); rintro e w2 ⟨k2, S2, c2, rfl, rfl, r2, n2', m2'⟩; clear t1 _t; obtain ⟨SN, hSN⟩ : ∃ SN, SN = (if c2 = m1 then S2 else S2.map (·.add m1)) := ⟨_, rfl⟩; have hSN2 := hSN.symm; have hrn : Rd w B SN (bv b9) := (by (have h1 := r2.cut m1 c2 (by rw [bv_length]; have := HL2.out; omega)); rw [← hSN] at h1; rw [HDN.out]; simpa [bv, List.map_drop] using h1); have HNr := Lib.hid hrn; have HNn := Lib.hid (name_none n2' hSN); have HNc := Lib.hid (show n9 ≤ c2 - m1 by omega); have cvn := fun (o o' : Obj) (k : Nat) => conv_any ((HCV.out S2 r2).below (two_box w B HBB.out o o' k)) m1 HML.out c2; have hmc : (m1 : Int) ≤ (c2 : Int) := (by omega); clear hSN hrn)
    | (go_at_call 61; have _t := t2; (refine (C2.out SN (c2 - m1) (HNn.out) HNc.out HNr.out _ (HB.out _ _ _)).mono ?_); rintro e w3 ⟨k3, S3, c3, rfl, rfl, r3, n3', m3'⟩; clear t2 _t)
    | (go_at_call 59; (refine (CP.out _).mono ?_); rintro e w9 ⟨b9, v9, rfl⟩; obtain ⟨hz9, hm9, hbw⟩ := boxes_at b9; have m0x := cellAt hm9 (j := 0) rfl; have m1x := cellAt hm9 (j := 1) rfl; have m2x := cellAt hm9 (j := 2) rfl; have m3x := cellAt hm9 (j := 3) rfl; have m4x := cellAt hm9 (j := 4) rfl; have m5x := cellAt hm9 (j := 5) rfl; have m6x := cellAt hm9 (j := 6) rfl; have z0 := cellAt hz9 (j := 0) rfl; have f0 := frozenAt hz9 (j := 0); have z1 := cellAt hz9 (j := 1) rfl; have f1 := frozenAt hz9 (j := 1); have z2 := cellAt hz9 (j := 2) rfl; have f2 := frozenAt hz9 (j := 2); have z3 := cellAt hz9 (j := 3) rfl; have f3 := frozenAt hz9 (j := 3); have z4 := cellAt hz9 (j := 4) rfl; have f4 := frozenAt hz9 (j := 4); have z5 := cellAt hz9 (j := 5) rfl; have f5 := frozenAt hz9 (j := 5); have z6 := cellAt hz9 (j := 6) rfl; have f6 := frozenAt hz9 (j := 6); clear b9 hz9 hm9)
    | fail)
  go_step3
  go_wp2
  rw [jump_ret]
  refine bodyPost_ret (v := .tuple #[zMsg, .bool false]) (by simp [results, Try.results62, go_sem, zMsg, z0, z1, z2, z3, z4, z5, z6]) rfl ⟨?_, rfl⟩
  exact ((((((hbw.setCell (p := ⟨w.heap.size, 0, none⟩) (Nat.le_refl _) _).setCell (p := ⟨w.heap.size, 1, none⟩) (Nat.le_refl _) _).setCell (p := ⟨w.heap.size, 2, none⟩) (Nat.le_refl _) _).setCell (p := ⟨w.heap.size, 3, none⟩) (Nat.le_refl _) _).setCell (p := ⟨w.heap.size, 4, none⟩) (Nat.le_refl _) _).setCell (p := ⟨w.heap.size, 5, none⟩) (Nat.le_refl _) _).setCell (p := ⟨w.heap.size, 6, none⟩) (Nat.le_refl _) _

set_option maxRecDepth 100000 in
set_option maxHeartbeats 2000000 in
theorem m_1_m (b : List UInt8) (n : Nat) (hn : n = b.length) (A : Option Addr) (c : Nat) (hA : A = none → c = 0) (hc : n ≤ c) (B : Nat) (w : World) (hr : Rd w B A (bv b)) (hB : B ≤ w.heap.size) (hl : n ≤ 16777216) (b1 : List UInt8) (n1 : Nat) (hn1 : n1 = b1.length) (hs0 : n = 1 + n1) (hV0 : 1 = IntKind.i64.wrap (be (b.take 1))) (hd0 : b1 = b.drop 1) (m1 : Nat) (b2 : List UInt8) (n2 : Nat) (hn2 : n2 = b2.length) (hs1 : n1 = 1 + n2) (hV1 : (m1 : Int) = IntKind.i64.wrap (be (b1.take 1))) (hd1 : b2 = b1.drop 1) (b9 : List UInt8) (n9 : Nat) (hn9 : n9 = b9.length) (hm : n2 = m1 + n9) (hdn : b9 = b2.drop m1) (v2 : Int) (b3 : List UInt8) (n3 : Nat) (hn3 : n3 = b3.length) (hs2 : n9 = 8 + n3) (hV2 : v2 = IntKind.i64.wrap (be (b9.take 8))) (hd2 : b3 = b9.drop 8) (q : List UInt8) (hq : paySpec 1 (str (b2.take m1)) ⟨#[]⟩ v2 0 0 0 = some q) (hz : 0 < n3) :
    Calls Try.prog 62 #[.slice A n c] w (MsgOut w none) := by
  have C0 := Lib.hid (fun (W : World) (hb : Below B w W) => cut_okB b n hn 1 1 rfl (by omega) n1 hs0 1 hV0 A c hA hc B w W hr hb (Nat.le_trans hl (by decide)))
  rw [← hd0] at C0
  have C1 := Lib.hid (fun (S : Option Addr) (c' : Nat) (hS : S = none → c' = 0) (hc' : n1 ≤ c') (h : Rd w B S (bv b1)) (W : World) (hb : Below B w W) => cut_okB b1 n1 hn1 1 1 rfl (by omega) n2 hs1 (m1 : Int) hV1 S c' hS hc' B w W h hb (by omega))
  rw [← hd1] at C1
  have C2 := Lib.hid (fun (S : Option Addr) (c' : Nat) (hS : S = none → c' = 0) (hc' : n9 ≤ c') (h : Rd w B S (bv b9)) (W : World) (hb : Below B w W) => cut_okB b9 n9 hn9 8 8 rfl (by omega) n3 hs2 v2 hV2 S c' hS hc' B w W h hb (by omega))
  rw [← hd2] at C2
  have CP := Lib.hid (fun (W : World) => payload_any 1 (str (b2.take m1)) ⟨#[]⟩ v2 0 0 0 W)
  rw [hq] at CP
  have HBB := Lib.hid hB
  have HCV := Lib.hid (fun (S : Option Addr) (h : Rd w B S (bv b2)) => show Rd w B S (bv (b2.take m1)) by have := h.take m1; simpa [bv, List.map_take] using this)
  have HL2 := Lib.hid hn2
  have HDN := Lib.hid hdn
  have hmn : ¬ (n2 : Int) < (m1 : Int) := by omega
  have HML := Lib.hid (show m1 = (b2.take m1).length by rw [List.length_take]; omega)
  have hm0 : (0 : Int) ≤ (m1 : Int) := Int.natCast_nonneg _
  have HB := Lib.hid (two_box w B hB)
  have HB0 := Lib.hid (two_box w _ (Nat.le_refl _))
  have t0 : True := trivial
  have t1 : True := trivial
  have t2 : True := trivial
  clear hn hn1 hs0 hV0 hd0 hn2 hs1 hV1 hd1 hn9 hdn hn3 hs2 hV2 hd2 hq hr
  go_enter Try.func62, Try.ntmps62
  go_wp2
  refine wp_scope_fwd 0 rfl ?_
  go_upto_region 10 with (first
    | (go_at_call 61; have _t := t0; (refine (C0.out _ (HB.out _ _ 0)).mono ?_); rintro e w1 ⟨k1, S1, c1, rfl, rfl, r1, n1', m1'⟩; clear t0 _t)
    | (go_at_call 61; have _t := t1; (refine (C1.out S1 c1 n1' m1' r1 _ (HB.out _ _ _)).mono ?_); rintro e w2 ⟨k2, S2, c2, rfl, rfl, r2, n2', m2'⟩; clear t1 _t; obtain ⟨SN, hSN⟩ : ∃ SN, SN = (if c2 = m1 then S2 else S2.map (·.add m1)) := ⟨_, rfl⟩; have hSN2 := hSN.symm; have hrn : Rd w B SN (bv b9) := (by (have h1 := r2.cut m1 c2 (by rw [bv_length]; have := HL2.out; omega)); rw [← hSN] at h1; rw [HDN.out]; simpa [bv, List.map_drop] using h1); have HNr := Lib.hid hrn; have HNn := Lib.hid (name_none n2' hSN); have HNc := Lib.hid (show n9 ≤ c2 - m1 by omega); have cvn := fun (o o' : Obj) (k : Nat) => conv_any ((HCV.out S2 r2).below (two_box w B HBB.out o o' k)) m1 HML.out c2; have hmc : (m1 : Int) ≤ (c2 : Int) := (by omega); clear hSN hrn)
    | (go_at_call 61; have _t := t2; (refine (C2.out SN (c2 - m1) (HNn.out) HNc.out HNr.out _ (HB.out _ _ _)).mono ?_); rintro e w3 ⟨k3, S3, c3, rfl, rfl, r3, n3', m3'⟩; clear t2 _t)
    | (go_at_call 59; (refine (CP.out _).mono ?_); rintro e w9 ⟨b9, A9, c9, rfl, h9⟩; obtain ⟨hz9, hm9, hbw⟩ := boxes_at b9; have m0x := cellAt hm9 (j := 0) rfl; have m1x := cellAt hm9 (j := 1) rfl; have m2x := cellAt hm9 (j := 2) rfl; have m3x := cellAt hm9 (j := 3) rfl; have m4x := cellAt hm9 (j := 4) rfl; have m5x := cellAt hm9 (j := 5) rfl; have m6x := cellAt hm9 (j := 6) rfl; have z0 := cellAt hz9 (j := 0) rfl; have f0 := frozenAt hz9 (j := 0); have z1 := cellAt hz9 (j := 1) rfl; have f1 := frozenAt hz9 (j := 1); have z2 := cellAt hz9 (j := 2) rfl; have f2 := frozenAt hz9 (j := 2); have z3 := cellAt hz9 (j := 3) rfl; have f3 := frozenAt hz9 (j := 3); have z4 := cellAt hz9 (j := 4) rfl; have f4 := frozenAt hz9 (j := 4); have z5 := cellAt hz9 (j := 5) rfl; have f5 := frozenAt hz9 (j := 5); have z6 := cellAt hz9 (j := 6) rfl; have f6 := frozenAt hz9 (j := 6); clear b9 hz9 hm9)
    | fail)
  go_region
  go_wp2_with (first
    | (go_at_call 61; have _t := t0; (refine (C0.out _ (HB.out _ _ 0)).mono ?_); rintro e w1 ⟨k1, S1, c1, rfl, rfl, r1, n1', m1'⟩; clear t0 _t)
    | (go_at_call 61; have _t := t1; (refine (C1.out S1 c1 n1' m1' r1 _ (HB.out _ _ _)).mono ?_); rintro e w2 ⟨k2, S2, c2, rfl, rfl, r2, n2', m2'⟩; clear t1 _t; obtain ⟨SN, hSN⟩ : ∃ SN, SN = (if c2 = m1 then S2 else S2.map (·.add m1)) := ⟨_, rfl⟩; have hSN2 := hSN.symm; have hrn : Rd w B SN (bv b9) := (by (have h1 := r2.cut m1 c2 (by rw [bv_length]; have := HL2.out; omega)); rw [← hSN] at h1; rw [HDN.out]; simpa [bv, List.map_drop] using h1); have HNr := Lib.hid hrn; have HNn := Lib.hid (name_none n2' hSN); have HNc := Lib.hid (show n9 ≤ c2 - m1 by omega); have cvn := fun (o o' : Obj) (k : Nat) => conv_any ((HCV.out S2 r2).below (two_box w B HBB.out o o' k)) m1 HML.out c2; have hmc : (m1 : Int) ≤ (c2 : Int) := (by omega); clear hSN hrn)
    | (go_at_call 61; have _t := t2; (refine (C2.out SN (c2 - m1) (HNn.out) HNc.out HNr.out _ (HB.out _ _ _)).mono ?_); rintro e w3 ⟨k3, S3, c3, rfl, rfl, r3, n3', m3'⟩; clear t2 _t)
    | (go_at_call 59; (refine (CP.out _).mono ?_); rintro e w9 ⟨b9, A9, c9, rfl, h9⟩; obtain ⟨hz9, hm9, hbw⟩ := boxes_at b9; have m0x := cellAt hm9 (j := 0) rfl; have m1x := cellAt hm9 (j := 1) rfl; have m2x := cellAt hm9 (j := 2) rfl; have m3x := cellAt hm9 (j := 3) rfl; have m4x := cellAt hm9 (j := 4) rfl; have m5x := cellAt hm9 (j := 5) rfl; have m6x := cellAt hm9 (j := 6) rfl; have z0 := cellAt hz9 (j := 0) rfl; have f0 := frozenAt hz9 (j := 0); have z1 := cellAt hz9 (j := 1) rfl; have f1 := frozenAt hz9 (j := 1); have z2 := cellAt hz9 (j := 2) rfl; have f2 := frozenAt hz9 (j := 2); have z3 := cellAt hz9 (j := 3) rfl; have f3 := frozenAt hz9 (j := 3); have z4 := cellAt hz9 (j := 4) rfl; have f4 := frozenAt hz9 (j := 4); have z5 := cellAt hz9 (j := 5) rfl; have f5 := frozenAt hz9 (j := 5); have z6 := cellAt hz9 (j := 6) rfl; have f6 := frozenAt hz9 (j := 6); clear b9 hz9 hm9)
    | fail)
  go_step3
  go_wp2
  rw [jump_ret]
  refine bodyPost_ret (v := .tuple #[zMsg, .bool false]) (by simp [results, Try.results62, go_sem, zMsg, z0, z1, z2, z3, z4, z5, z6]) rfl ⟨?_, rfl⟩
  exact ((((((hbw.setCell (p := ⟨w.heap.size, 0, none⟩) (Nat.le_refl _) _).setCell (p := ⟨w.heap.size, 1, none⟩) (Nat.le_refl _) _).setCell (p := ⟨w.heap.size, 2, none⟩) (Nat.le_refl _) _).setCell (p := ⟨w.heap.size, 3, none⟩) (Nat.le_refl _) _).setCell (p := ⟨w.heap.size, 4, none⟩) (Nat.le_refl _) _).setCell (p := ⟨w.heap.size, 5, none⟩) (Nat.le_refl _) _).setCell (p := ⟨w.heap.size, 6, none⟩) (Nat.le_refl _) _

set_option maxRecDepth 100000 in
set_option maxHeartbeats 2000000 in
theorem m_1_g (b : List UInt8) (n : Nat) (hn : n = b.length) (A : Option Addr) (c : Nat) (hA : A = none → c = 0) (hc : n ≤ c) (B : Nat) (w : World) (hr : Rd w B A (bv b)) (hB : B ≤ w.heap.size) (hl : n ≤ 16777216) (b1 : List UInt8) (n1 : Nat) (hn1 : n1 = b1.length) (hs0 : n = 1 + n1) (hV0 : 1 = IntKind.i64.wrap (be (b.take 1))) (hd0 : b1 = b.drop 1) (m1 : Nat) (b2 : List UInt8) (n2 : Nat) (hn2 : n2 = b2.length) (hs1 : n1 = 1 + n2) (hV1 : (m1 : Int) = IntKind.i64.wrap (be (b1.take 1))) (hd1 : b2 = b1.drop 1) (b9 : List UInt8) (n9 : Nat) (hn9 : n9 = b9.length) (hm : n2 = m1 + n9) (hdn : b9 = b2.drop m1) (v2 : Int) (b3 : List UInt8) (n3 : Nat) (hn3 : n3 = b3.length) (hs2 : n9 = 8 + n3) (hV2 : v2 = IntKind.i64.wrap (be (b9.take 8))) (hd2 : b3 = b9.drop 8) (q : List UInt8) (hq : paySpec 1 (str (b2.take m1)) ⟨#[]⟩ v2 0 0 0 = some q) (hz : n3 = 0) :
    Calls Try.prog 62 #[.slice A n c] w (MsgOut w (some ⟨1, str (b2.take m1), v2, 0, 0, 0, ⟨#[]⟩⟩)) := by
  have C0 := Lib.hid (fun (W : World) (hb : Below B w W) => cut_okB b n hn 1 1 rfl (by omega) n1 hs0 1 hV0 A c hA hc B w W hr hb (Nat.le_trans hl (by decide)))
  rw [← hd0] at C0
  have C1 := Lib.hid (fun (S : Option Addr) (c' : Nat) (hS : S = none → c' = 0) (hc' : n1 ≤ c') (h : Rd w B S (bv b1)) (W : World) (hb : Below B w W) => cut_okB b1 n1 hn1 1 1 rfl (by omega) n2 hs1 (m1 : Int) hV1 S c' hS hc' B w W h hb (by omega))
  rw [← hd1] at C1
  have C2 := Lib.hid (fun (S : Option Addr) (c' : Nat) (hS : S = none → c' = 0) (hc' : n9 ≤ c') (h : Rd w B S (bv b9)) (W : World) (hb : Below B w W) => cut_okB b9 n9 hn9 8 8 rfl (by omega) n3 hs2 v2 hV2 S c' hS hc' B w W h hb (by omega))
  rw [← hd2] at C2
  have CP := Lib.hid (fun (W : World) => payload_any 1 (str (b2.take m1)) ⟨#[]⟩ v2 0 0 0 W)
  rw [hq] at CP
  have HBB := Lib.hid hB
  have HCV := Lib.hid (fun (S : Option Addr) (h : Rd w B S (bv b2)) => show Rd w B S (bv (b2.take m1)) by have := h.take m1; simpa [bv, List.map_take] using this)
  have HL2 := Lib.hid hn2
  have HDN := Lib.hid hdn
  have hmn : ¬ (n2 : Int) < (m1 : Int) := by omega
  have HML := Lib.hid (show m1 = (b2.take m1).length by rw [List.length_take]; omega)
  have hm0 : (0 : Int) ≤ (m1 : Int) := Int.natCast_nonneg _
  have HB := Lib.hid (two_box w B hB)
  have HB0 := Lib.hid (two_box w _ (Nat.le_refl _))
  have t0 : True := trivial
  have t1 : True := trivial
  have t2 : True := trivial
  obtain rfl := hz
  clear hn hn1 hs0 hV0 hd0 hn2 hs1 hV1 hd1 hn9 hdn hn3 hs2 hV2 hd2 hq hr
  go_enter Try.func62, Try.ntmps62
  go_wp2
  refine wp_scope_fwd 0 rfl ?_
  go_upto_region 10 with (first
    | (go_at_call 61; have _t := t0; (refine (C0.out _ (HB.out _ _ 0)).mono ?_); rintro e w1 ⟨k1, S1, c1, rfl, rfl, r1, n1', m1'⟩; clear t0 _t)
    | (go_at_call 61; have _t := t1; (refine (C1.out S1 c1 n1' m1' r1 _ (HB.out _ _ _)).mono ?_); rintro e w2 ⟨k2, S2, c2, rfl, rfl, r2, n2', m2'⟩; clear t1 _t; obtain ⟨SN, hSN⟩ : ∃ SN, SN = (if c2 = m1 then S2 else S2.map (·.add m1)) := ⟨_, rfl⟩; have hSN2 := hSN.symm; have hrn : Rd w B SN (bv b9) := (by (have h1 := r2.cut m1 c2 (by rw [bv_length]; have := HL2.out; omega)); rw [← hSN] at h1; rw [HDN.out]; simpa [bv, List.map_drop] using h1); have HNr := Lib.hid hrn; have HNn := Lib.hid (name_none n2' hSN); have HNc := Lib.hid (show n9 ≤ c2 - m1 by omega); have cvn := fun (o o' : Obj) (k : Nat) => conv_any ((HCV.out S2 r2).below (two_box w B HBB.out o o' k)) m1 HML.out c2; have hmc : (m1 : Int) ≤ (c2 : Int) := (by omega); clear hSN hrn)
    | (go_at_call 61; have _t := t2; (refine (C2.out SN (c2 - m1) (HNn.out) HNc.out HNr.out _ (HB.out _ _ _)).mono ?_); rintro e w3 ⟨k3, S3, c3, rfl, rfl, r3, n3', m3'⟩; clear t2 _t)
    | (go_at_call 59; (refine (CP.out _).mono ?_); rintro e w9 ⟨b9, A9, c9, rfl, h9⟩; obtain ⟨hz9, hm9, hbw⟩ := boxes_at b9; have m0x := cellAt hm9 (j := 0) rfl; have m1x := cellAt hm9 (j := 1) rfl; have m2x := cellAt hm9 (j := 2) rfl; have m3x := cellAt hm9 (j := 3) rfl; have m4x := cellAt hm9 (j := 4) rfl; have m5x := cellAt hm9 (j := 5) rfl; have m6x := cellAt hm9 (j := 6) rfl; have z0 := cellAt hz9 (j := 0) rfl; have f0 := frozenAt hz9 (j := 0); have z1 := cellAt hz9 (j := 1) rfl; have f1 := frozenAt hz9 (j := 1); have z2 := cellAt hz9 (j := 2) rfl; have f2 := frozenAt hz9 (j := 2); have z3 := cellAt hz9 (j := 3) rfl; have f3 := frozenAt hz9 (j := 3); have z4 := cellAt hz9 (j := 4) rfl; have f4 := frozenAt hz9 (j := 4); have z5 := cellAt hz9 (j := 5) rfl; have f5 := frozenAt hz9 (j := 5); have z6 := cellAt hz9 (j := 6) rfl; have f6 := frozenAt hz9 (j := 6); clear b9 hz9 hm9)
    | fail)
  go_region
  go_wp2_with (first
    | (go_at_call 61; have _t := t0; (refine (C0.out _ (HB.out _ _ 0)).mono ?_); rintro e w1 ⟨k1, S1, c1, rfl, rfl, r1, n1', m1'⟩; clear t0 _t)
    | (go_at_call 61; have _t := t1; (refine (C1.out S1 c1 n1' m1' r1 _ (HB.out _ _ _)).mono ?_); rintro e w2 ⟨k2, S2, c2, rfl, rfl, r2, n2', m2'⟩; clear t1 _t; obtain ⟨SN, hSN⟩ : ∃ SN, SN = (if c2 = m1 then S2 else S2.map (·.add m1)) := ⟨_, rfl⟩; have hSN2 := hSN.symm; have hrn : Rd w B SN (bv b9) := (by (have h1 := r2.cut m1 c2 (by rw [bv_length]; have := HL2.out; omega)); rw [← hSN] at h1; rw [HDN.out]; simpa [bv, List.map_drop] using h1); have HNr := Lib.hid hrn; have HNn := Lib.hid (name_none n2' hSN); have HNc := Lib.hid (show n9 ≤ c2 - m1 by omega); have cvn := fun (o o' : Obj) (k : Nat) => conv_any ((HCV.out S2 r2).below (two_box w B HBB.out o o' k)) m1 HML.out c2; have hmc : (m1 : Int) ≤ (c2 : Int) := (by omega); clear hSN hrn)
    | (go_at_call 61; have _t := t2; (refine (C2.out SN (c2 - m1) (HNn.out) HNc.out HNr.out _ (HB.out _ _ _)).mono ?_); rintro e w3 ⟨k3, S3, c3, rfl, rfl, r3, n3', m3'⟩; clear t2 _t)
    | (go_at_call 59; (refine (CP.out _).mono ?_); rintro e w9 ⟨b9, A9, c9, rfl, h9⟩; obtain ⟨hz9, hm9, hbw⟩ := boxes_at b9; have m0x := cellAt hm9 (j := 0) rfl; have m1x := cellAt hm9 (j := 1) rfl; have m2x := cellAt hm9 (j := 2) rfl; have m3x := cellAt hm9 (j := 3) rfl; have m4x := cellAt hm9 (j := 4) rfl; have m5x := cellAt hm9 (j := 5) rfl; have m6x := cellAt hm9 (j := 6) rfl; have z0 := cellAt hz9 (j := 0) rfl; have f0 := frozenAt hz9 (j := 0); have z1 := cellAt hz9 (j := 1) rfl; have f1 := frozenAt hz9 (j := 1); have z2 := cellAt hz9 (j := 2) rfl; have f2 := frozenAt hz9 (j := 2); have z3 := cellAt hz9 (j := 3) rfl; have f3 := frozenAt hz9 (j := 3); have z4 := cellAt hz9 (j := 4) rfl; have f4 := frozenAt hz9 (j := 4); have z5 := cellAt hz9 (j := 5) rfl; have f5 := frozenAt hz9 (j := 5); have z6 := cellAt hz9 (j := 6) rfl; have f6 := frozenAt hz9 (j := 6); clear b9 hz9 hm9)
    | fail)
  rw [jump_ret]
  refine bodyPost_ret (v := .tuple #[msgV ⟨1, str (b2.take m1), v2, 0, 0, 0, ⟨#[]⟩⟩, .bool true]) (by simp [results, Try.results62, go_sem, msgV, z0, z1, z2, z3, z4, z5, z6]) rfl ⟨?_, rfl⟩
  exact ((((((hbw.setCell (p := ⟨w.heap.size, 0, none⟩) (Nat.le_refl _) _).setCell (p := ⟨w.heap.size, 1, none⟩) (Nat.le_refl _) _).setCell (p := ⟨w.heap.size, 2, none⟩) (Nat.le_refl _) _).setCell (p := ⟨w.heap.size, 3, none⟩) (Nat.le_refl _) _).setCell (p := ⟨w.heap.size, 4, none⟩) (Nat.le_refl _) _).setCell (p := ⟨w.heap.size, 5, none⟩) (Nat.le_refl _) _).setCell (p := ⟨w.heap.size, 6, none⟩) (Nat.le_refl _) _

end Go.Proofs.Ytbhjcfhpabnadaa
