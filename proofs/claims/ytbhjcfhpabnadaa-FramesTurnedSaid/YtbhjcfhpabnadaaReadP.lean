/-
  The walk of turnpikeref19.Read. (Its kinds printed by wip/mkread.py.)
-/
import Derived.Test.YtbhjcfhpabnadaaMsgA
namespace Go.Proofs.Ytbhjcfhpabnadaa
open Go.RowKit

attribute [local go_sem] drewN_setCell drewN_alloc World.drewN_drewN

theorem num_v (b : List UInt8) (n : Nat) (hn : n = b.length) (p s : Nat) (pi si : Int) (hpi : pi = p) (hsi : si = s) (V : Int) (hV : V = nul ((b.drop p).take s)) (hs : s ≤ 8) (hp : p ≤ 16777216) (A : Option Addr) (c : Nat) (B : Nat) (w W : World) (hr : Rd w B A (bv b)) (hW : Below B w W) (hl : n ≤ 140737756790784) :
    Calls Try.prog 63 #[.slice A n c, .int .i64 pi, .int .i64 si] W fun e w' => e = .returned (.int .i64 V) ∧ W = w' := by
  subst hpi hsi hV
  exact num63_any b n hn p s hs hp A c B W (hr.below hW) hl
theorem text_v (b : List UInt8) (n : Nat) (hn : n = b.length) (p s : Nat) (pi si : Int) (hpi : pi = p) (hsi : si = s) (T : ByteArray) (hT : T = str ((b.drop p).take s)) (hs : s ≤ 16777216) (hp : p ≤ 16777216) (A : Option Addr) (c : Nat) (hc : n ≤ c) (B : Nat) (w W : World) (hr : Rd w B A (bv b)) (hW : Below B w W) (hl : n ≤ 16777216) :
    Calls Try.prog 70 #[.slice A n c, .int .i64 pi, .int .i64 si] W fun e w' => e = .returned (.string T) ∧ W = w' := by
  subst hpi hsi hT
  exact text70_any b n hn p s hs hp A c hc B W (hr.below hW) hl

theorem boxes_r {w w9 : World} {Z M : Array Value} (h : Below ((w.alloc (.cells Z 57)).alloc (.cells M 57)).heap.size ((w.alloc (.cells Z 57)).alloc (.cells M 57)) w9) :
    w9.heap[w.heap.size]? = some (.cells Z 57 (0, 0)) ∧ w9.heap[w.heap.size + 1]? = some (.cells M 57 (0, 0)) ∧ Below w.heap.size w w9 := by
  have hs : ((w.alloc (.cells Z 57)).alloc (.cells M 57)).heap.size = w.heap.size + 2 := by simp
  rw [hs] at h
  refine ⟨(h.block _ (by omega)).trans ?_, (h.block _ (by omega)).trans ?_, (((Below.refl _ w).alloc (Nat.le_refl _) _).alloc (by simp) _).trans (h.mono (by omega))⟩
  · exact (Below.heap_alloc (w.alloc (.cells Z 57)) _ _ (by simp)).trans (new_at w _)
  · have := new_at (w.alloc (.cells Z 57)) (.cells M 57)
    rw [World.size_alloc] at this
    exact this
theorem two_r (w : World) (B : Nat) (hB : B ≤ w.heap.size) (o o' : Obj) : Below B w ((w.alloc o).alloc o') := ((Below.refl B w).alloc hB o).alloc (by simp; omega) o'
theorem str_ne {a b : List UInt8} (h : a ≠ b) : ((str a).toList == (str b).toList) = false := by
  rw [str_list, str_list, beq_eq_false_iff_ne]
  exact h

set_option maxRecDepth 100000 in
set_option maxHeartbeats 2000000 in
theorem r_3_none (b : List UInt8) (n : Nat) (hn : n = b.length) (A : Option Addr) (c : Nat) (B : Nat) (w : World) (hr : Rd w B A (bv b)) (hB : B ≤ w.heap.size) (hl : n ≤ 1048576) (h0 : 0 < n) (hk : ((b[0]'(by omega)).toNat : Int) = 3) (v1 : Int) (hv1 : v1 = nul ((b.drop 1).take 8)) (v2 : Int) (hv2 : v2 = nul ((b.drop 9).take 8)) (hq : paySpec 3 ⟨#[]⟩ ⟨#[]⟩ v2 0 v1 0 = none) :
    Calls Try.prog 64 #[.slice A n c] w (MsgOut w none) := by
  have N0 := Lib.hid (fun (W : World) (hb : Below B w W) => num_v b n hn (1) 8 1 8 rfl rfl (v1) hv1 (by omega) (by omega) A c B w W hr hb (by omega))
  have N1 := Lib.hid (fun (W : World) (hb : Below B w W) => num_v b n hn (9) 8 9 8 rfl rfl (v2) hv2 (by omega) (by omega) A c B w W hr hb (by omega))
  have CP := Lib.hid (fun (W : World) => rpayload_any 3 ⟨#[]⟩ ⟨#[]⟩ v2 0 v1 0 W (by decide) (by decide))
  rw [hq] at CP
  obtain ⟨a, rfl, _, hcell⟩ := hr.byte (k := 0) (show 0 < b.length by omega)
  rw [hk, Addr.add_zero'] at hcell
  have HB := Lib.hid (two_r w B hB)
  have HR := Lib.hid hr
  have HN := Lib.hid hn
  have t0 : True := trivial
  have t1 : True := trivial
  have h0n : ((n : Int) == 0) = false := by rw [beq_eq_false_iff_ne]; omega
  have h0I : (0 : Int) < (n : Int) := by omega
  have hblk := World.block_lt_of_cell? w a hcell
  clear hk hq hr hn hv1 hv2
  go_enter Try.func64, Try.ntmps64
  go_wp2_with (first
    | (go_at_call 63; have _t := t0; (refine (N0.out _ (HB.out _ _)).mono ?_); rintro e w1 ⟨rfl, rfl⟩; clear t0 _t)
    | (go_at_call 63; have _t := t1; (refine (N1.out _ (HB.out _ _)).mono ?_); rintro e w1 ⟨rfl, rfl⟩; clear t1 _t)
    | (go_at_call 60; (refine (CP.out _).mono ?_); rintro e w9 ⟨b9, v9, rfl⟩; obtain ⟨hz9, hm9, hbw⟩ := boxes_r b9; have m0x := cellAt hm9 (j := 0) rfl; have m1x := cellAt hm9 (j := 1) rfl; have m2x := cellAt hm9 (j := 2) rfl; have m3x := cellAt hm9 (j := 3) rfl; have m4x := cellAt hm9 (j := 4) rfl; have m5x := cellAt hm9 (j := 5) rfl; have m6x := cellAt hm9 (j := 6) rfl; have z0 := cellAt hz9 (j := 0) rfl; have f0 := frozenAt hz9 (j := 0); have z1 := cellAt hz9 (j := 1) rfl; have f1 := frozenAt hz9 (j := 1); have z2 := cellAt hz9 (j := 2) rfl; have f2 := frozenAt hz9 (j := 2); have z3 := cellAt hz9 (j := 3) rfl; have f3 := frozenAt hz9 (j := 3); have z4 := cellAt hz9 (j := 4) rfl; have f4 := frozenAt hz9 (j := 4); have z5 := cellAt hz9 (j := 5) rfl; have f5 := frozenAt hz9 (j := 5); have z6 := cellAt hz9 (j := 6) rfl; have f6 := frozenAt hz9 (j := 6); clear b9 hz9 hm9)
    | fail)
  refine bodyPost_ret (v := .tuple #[zMsg, .bool false]) (by simp [results, Try.results64, go_sem, zMsg, z0, z1, z2, z3, z4, z5, z6]) rfl ⟨?_, rfl⟩
  exact ((((((hbw.setCell (p := ⟨w.heap.size, 0, none⟩) (Nat.le_refl _) _).setCell (p := ⟨w.heap.size, 1, none⟩) (Nat.le_refl _) _).setCell (p := ⟨w.heap.size, 2, none⟩) (Nat.le_refl _) _).setCell (p := ⟨w.heap.size, 3, none⟩) (Nat.le_refl _) _).setCell (p := ⟨w.heap.size, 4, none⟩) (Nat.le_refl _) _).setCell (p := ⟨w.heap.size, 5, none⟩) (Nat.le_refl _) _).setCell (p := ⟨w.heap.size, 6, none⟩) (Nat.le_refl _) _

set_option maxRecDepth 100000 in
set_option maxHeartbeats 2000000 in
theorem r_3_diff (b : List UInt8) (n : Nat) (hn : n = b.length) (A : Option Addr) (c : Nat) (B : Nat) (w : World) (hr : Rd w B A (bv b)) (hB : B ≤ w.heap.size) (hl : n ≤ 1048576) (h0 : 0 < n) (hk : ((b[0]'(by omega)).toNat : Int) = 3) (v1 : Int) (hv1 : v1 = nul ((b.drop 1).take 8)) (v2 : Int) (hv2 : v2 = nul ((b.drop 9).take 8)) (q : List UInt8) (hq : paySpec 3 ⟨#[]⟩ ⟨#[]⟩ v2 0 v1 0 = some q) (hd : q ≠ b) :
    Calls Try.prog 64 #[.slice A n c] w (MsgOut w none) := by
  have N0 := Lib.hid (fun (W : World) (hb : Below B w W) => num_v b n hn (1) 8 1 8 rfl rfl (v1) hv1 (by omega) (by omega) A c B w W hr hb (by omega))
  have N1 := Lib.hid (fun (W : World) (hb : Below B w W) => num_v b n hn (9) 8 9 8 rfl rfl (v2) hv2 (by omega) (by omega) A c B w W hr hb (by omega))
  have CP := Lib.hid (fun (W : World) => rpayload_any 3 ⟨#[]⟩ ⟨#[]⟩ v2 0 v1 0 W (by decide) (by decide))
  rw [hq] at CP
  obtain ⟨a, rfl, _, hcell⟩ := hr.byte (k := 0) (show 0 < b.length by omega)
  rw [hk, Addr.add_zero'] at hcell
  have HB := Lib.hid (two_r w B hB)
  have HR := Lib.hid hr
  have HN := Lib.hid hn
  have t0 : True := trivial
  have t1 : True := trivial
  have h0n : ((n : Int) == 0) = false := by rw [beq_eq_false_iff_ne]; omega
  have h0I : (0 : Int) < (n : Int) := by omega
  have hblk := World.block_lt_of_cell? w a hcell
  have hdd := str_ne hd
  have hdd2 := str_ne (Ne.symm hd)
  clear hk hq hr hn hv1 hv2
  go_enter Try.func64, Try.ntmps64
  have HBB := Lib.hid hB
  go_wp2_with (first
    | (go_at_call 63; have _t := t0; (refine (N0.out _ (HB.out _ _)).mono ?_); rintro e w1 ⟨rfl, rfl⟩; clear t0 _t)
    | (go_at_call 63; have _t := t1; (refine (N1.out _ (HB.out _ _)).mono ?_); rintro e w1 ⟨rfl, rfl⟩; clear t1 _t)
    | (go_at_call 60; (refine (CP.out _).mono ?_); rintro e w9 ⟨b9, A9, c9, rfl, h9⟩; obtain ⟨hz9, hm9, hbw⟩ := boxes_r b9; have m0x := cellAt hm9 (j := 0) rfl; have m1x := cellAt hm9 (j := 1) rfl; have m2x := cellAt hm9 (j := 2) rfl; have m3x := cellAt hm9 (j := 3) rfl; have m4x := cellAt hm9 (j := 4) rfl; have m5x := cellAt hm9 (j := 5) rfl; have m6x := cellAt hm9 (j := 6) rfl; have z0 := cellAt hz9 (j := 0) rfl; have f0 := frozenAt hz9 (j := 0); have z1 := cellAt hz9 (j := 1) rfl; have f1 := frozenAt hz9 (j := 1); have z2 := cellAt hz9 (j := 2) rfl; have f2 := frozenAt hz9 (j := 2); have z3 := cellAt hz9 (j := 3) rfl; have f3 := frozenAt hz9 (j := 3); have z4 := cellAt hz9 (j := 4) rfl; have f4 := frozenAt hz9 (j := 4); have z5 := cellAt hz9 (j := 5) rfl; have f5 := frozenAt hz9 (j := 5); have z6 := cellAt hz9 (j := 6) rfl; have f6 := frozenAt hz9 (j := 6); have cv1 := conv_any (HR.out.below (hbw.mono HBB.out)) n HN.out c; have cv2 := conv_any h9.rd _ rfl c9; clear b9 hz9 hm9)
    | fail)
  refine bodyPost_ret (v := .tuple #[zMsg, .bool false]) (by simp [results, Try.results64, go_sem, zMsg, z0, z1, z2, z3, z4, z5, z6]) rfl ⟨?_, rfl⟩
  exact ((((((hbw.setCell (p := ⟨w.heap.size, 0, none⟩) (Nat.le_refl _) _).setCell (p := ⟨w.heap.size, 1, none⟩) (Nat.le_refl _) _).setCell (p := ⟨w.heap.size, 2, none⟩) (Nat.le_refl _) _).setCell (p := ⟨w.heap.size, 3, none⟩) (Nat.le_refl _) _).setCell (p := ⟨w.heap.size, 4, none⟩) (Nat.le_refl _) _).setCell (p := ⟨w.heap.size, 5, none⟩) (Nat.le_refl _) _).setCell (p := ⟨w.heap.size, 6, none⟩) (Nat.le_refl _) _

set_option maxRecDepth 100000 in
set_option maxHeartbeats 2000000 in
theorem r_3_same (b : List UInt8) (n : Nat) (hn : n = b.length) (A : Option Addr) (c : Nat) (B : Nat) (w : World) (hr : Rd w B A (bv b)) (hB : B ≤ w.heap.size) (hl : n ≤ 1048576) (h0 : 0 < n) (hk : ((b[0]'(by omega)).toNat : Int) = 3) (v1 : Int) (hv1 : v1 = nul ((b.drop 1).take 8)) (v2 : Int) (hv2 : v2 = nul ((b.drop 9).take 8)) (hq : paySpec 3 ⟨#[]⟩ ⟨#[]⟩ v2 0 v1 0 = some b) :
    Calls Try.prog 64 #[.slice A n c] w (MsgOut w (some ⟨3, ⟨#[]⟩, v2, 0, v1, 0, ⟨#[]⟩⟩)) := by
  have N0 := Lib.hid (fun (W : World) (hb : Below B w W) => num_v b n hn (1) 8 1 8 rfl rfl (v1) hv1 (by omega) (by omega) A c B w W hr hb (by omega))
  have N1 := Lib.hid (fun (W : World) (hb : Below B w W) => num_v b n hn (9) 8 9 8 rfl rfl (v2) hv2 (by omega) (by omega) A c B w W hr hb (by omega))
  have CP := Lib.hid (fun (W : World) => rpayload_any 3 ⟨#[]⟩ ⟨#[]⟩ v2 0 v1 0 W (by decide) (by decide))
  rw [hq] at CP
  obtain ⟨a, rfl, _, hcell⟩ := hr.byte (k := 0) (show 0 < b.length by omega)
  rw [hk, Addr.add_zero'] at hcell
  have HB := Lib.hid (two_r w B hB)
  have HR := Lib.hid hr
  have HN := Lib.hid hn
  have t0 : True := trivial
  have t1 : True := trivial
  have h0n : ((n : Int) == 0) = false := by rw [beq_eq_false_iff_ne]; omega
  have h0I : (0 : Int) < (n : Int) := by omega
  have hblk := World.block_lt_of_cell? w a hcell
  clear hk hq hr hn hv1 hv2
  go_enter Try.func64, Try.ntmps64
  have HBB := Lib.hid hB
  go_wp2_with (first
    | (go_at_call 63; have _t := t0; (refine (N0.out _ (HB.out _ _)).mono ?_); rintro e w1 ⟨rfl, rfl⟩; clear t0 _t)
    | (go_at_call 63; have _t := t1; (refine (N1.out _ (HB.out _ _)).mono ?_); rintro e w1 ⟨rfl, rfl⟩; clear t1 _t)
    | (go_at_call 60; (refine (CP.out _).mono ?_); rintro e w9 ⟨b9, A9, c9, rfl, h9⟩; obtain ⟨hz9, hm9, hbw⟩ := boxes_r b9; have m0x := cellAt hm9 (j := 0) rfl; have m1x := cellAt hm9 (j := 1) rfl; have m2x := cellAt hm9 (j := 2) rfl; have m3x := cellAt hm9 (j := 3) rfl; have m4x := cellAt hm9 (j := 4) rfl; have m5x := cellAt hm9 (j := 5) rfl; have m6x := cellAt hm9 (j := 6) rfl; have z0 := cellAt hz9 (j := 0) rfl; have f0 := frozenAt hz9 (j := 0); have z1 := cellAt hz9 (j := 1) rfl; have f1 := frozenAt hz9 (j := 1); have z2 := cellAt hz9 (j := 2) rfl; have f2 := frozenAt hz9 (j := 2); have z3 := cellAt hz9 (j := 3) rfl; have f3 := frozenAt hz9 (j := 3); have z4 := cellAt hz9 (j := 4) rfl; have f4 := frozenAt hz9 (j := 4); have z5 := cellAt hz9 (j := 5) rfl; have f5 := frozenAt hz9 (j := 5); have z6 := cellAt hz9 (j := 6) rfl; have f6 := frozenAt hz9 (j := 6); have cv1 := conv_any (HR.out.below (hbw.mono HBB.out)) n HN.out c; have cv2 := conv_any h9.rd _ rfl c9; clear b9 hz9 hm9)
    | fail)
  refine bodyPost_ret (v := .tuple #[msgV ⟨3, ⟨#[]⟩, v2, 0, v1, 0, ⟨#[]⟩⟩, .bool true]) (by simp [results, Try.results64, go_sem, msgV, z0, z1, z2, z3, z4, z5, z6]) rfl ⟨?_, rfl⟩
  exact ((((((hbw.setCell (p := ⟨w.heap.size, 0, none⟩) (Nat.le_refl _) _).setCell (p := ⟨w.heap.size, 1, none⟩) (Nat.le_refl _) _).setCell (p := ⟨w.heap.size, 2, none⟩) (Nat.le_refl _) _).setCell (p := ⟨w.heap.size, 3, none⟩) (Nat.le_refl _) _).setCell (p := ⟨w.heap.size, 4, none⟩) (Nat.le_refl _) _).setCell (p := ⟨w.heap.size, 5, none⟩) (Nat.le_refl _) _).setCell (p := ⟨w.heap.size, 6, none⟩) (Nat.le_refl _) _

set_option maxRecDepth 100000 in
set_option maxHeartbeats 2000000 in
theorem r_5_none (b : List UInt8) (n : Nat) (hn : n = b.length) (A : Option Addr) (c : Nat) (B : Nat) (w : World) (hr : Rd w B A (bv b)) (hB : B ≤ w.heap.size) (hl : n ≤ 1048576) (h0 : 0 < n) (hk : ((b[0]'(by omega)).toNat : Int) = 5) (v1 : Int) (hv1 : v1 = nul ((b.drop 1).take 8)) (hq : paySpec 5 ⟨#[]⟩ ⟨#[]⟩ 0 0 v1 0 = none) :
    Calls Try.prog 64 #[.slice A n c] w (MsgOut w none) := by
  have N0 := Lib.hid (fun (W : World) (hb : Below B w W) => num_v b n hn (1) 8 1 8 rfl rfl (v1) hv1 (by omega) (by omega) A c B w W hr hb (by omega))
  have CP := Lib.hid (fun (W : World) => rpayload_any 5 ⟨#[]⟩ ⟨#[]⟩ 0 0 v1 0 W (by decide) (by decide))
  rw [hq] at CP
  obtain ⟨a, rfl, _, hcell⟩ := hr.byte (k := 0) (show 0 < b.length by omega)
  rw [hk, Addr.add_zero'] at hcell
  have HB := Lib.hid (two_r w B hB)
  have HR := Lib.hid hr
  have HN := Lib.hid hn
  have t0 : True := trivial
  have h0n : ((n : Int) == 0) = false := by rw [beq_eq_false_iff_ne]; omega
  have h0I : (0 : Int) < (n : Int) := by omega
  have hblk := World.block_lt_of_cell? w a hcell
  clear hk hq hr hn hv1
  go_enter Try.func64, Try.ntmps64
  go_wp2_with (first
    | (go_at_call 63; have _t := t0; (refine (N0.out _ (HB.out _ _)).mono ?_); rintro e w1 ⟨rfl, rfl⟩; clear t0 _t)
    | (go_at_call 60; (refine (CP.out _).mono ?_); rintro e w9 ⟨b9, v9, rfl⟩; obtain ⟨hz9, hm9, hbw⟩ := boxes_r b9; have m0x := cellAt hm9 (j := 0) rfl; have m1x := cellAt hm9 (j := 1) rfl; have m2x := cellAt hm9 (j := 2) rfl; have m3x := cellAt hm9 (j := 3) rfl; have m4x := cellAt hm9 (j := 4) rfl; have m5x := cellAt hm9 (j := 5) rfl; have m6x := cellAt hm9 (j := 6) rfl; have z0 := cellAt hz9 (j := 0) rfl; have f0 := frozenAt hz9 (j := 0); have z1 := cellAt hz9 (j := 1) rfl; have f1 := frozenAt hz9 (j := 1); have z2 := cellAt hz9 (j := 2) rfl; have f2 := frozenAt hz9 (j := 2); have z3 := cellAt hz9 (j := 3) rfl; have f3 := frozenAt hz9 (j := 3); have z4 := cellAt hz9 (j := 4) rfl; have f4 := frozenAt hz9 (j := 4); have z5 := cellAt hz9 (j := 5) rfl; have f5 := frozenAt hz9 (j := 5); have z6 := cellAt hz9 (j := 6) rfl; have f6 := frozenAt hz9 (j := 6); clear b9 hz9 hm9)
    | fail)
  refine bodyPost_ret (v := .tuple #[zMsg, .bool false]) (by simp [results, Try.results64, go_sem, zMsg, z0, z1, z2, z3, z4, z5, z6]) rfl ⟨?_, rfl⟩
  exact ((((((hbw.setCell (p := ⟨w.heap.size, 0, none⟩) (Nat.le_refl _) _).setCell (p := ⟨w.heap.size, 1, none⟩) (Nat.le_refl _) _).setCell (p := ⟨w.heap.size, 2, none⟩) (Nat.le_refl _) _).setCell (p := ⟨w.heap.size, 3, none⟩) (Nat.le_refl _) _).setCell (p := ⟨w.heap.size, 4, none⟩) (Nat.le_refl _) _).setCell (p := ⟨w.heap.size, 5, none⟩) (Nat.le_refl _) _).setCell (p := ⟨w.heap.size, 6, none⟩) (Nat.le_refl _) _

set_option maxRecDepth 100000 in
set_option maxHeartbeats 2000000 in
theorem r_5_diff (b : List UInt8) (n : Nat) (hn : n = b.length) (A : Option Addr) (c : Nat) (B : Nat) (w : World) (hr : Rd w B A (bv b)) (hB : B ≤ w.heap.size) (hl : n ≤ 1048576) (h0 : 0 < n) (hk : ((b[0]'(by omega)).toNat : Int) = 5) (v1 : Int) (hv1 : v1 = nul ((b.drop 1).take 8)) (q : List UInt8) (hq : paySpec 5 ⟨#[]⟩ ⟨#[]⟩ 0 0 v1 0 = some q) (hd : q ≠ b) :
    Calls Try.prog 64 #[.slice A n c] w (MsgOut w none) := by
  have N0 := Lib.hid (fun (W : World) (hb : Below B w W) => num_v b n hn (1) 8 1 8 rfl rfl (v1) hv1 (by omega) (by omega) A c B w W hr hb (by omega))
  have CP := Lib.hid (fun (W : World) => rpayload_any 5 ⟨#[]⟩ ⟨#[]⟩ 0 0 v1 0 W (by decide) (by decide))
  rw [hq] at CP
  obtain ⟨a, rfl, _, hcell⟩ := hr.byte (k := 0) (show 0 < b.length by omega)
  rw [hk, Addr.add_zero'] at hcell
  have HB := Lib.hid (two_r w B hB)
  have HR := Lib.hid hr
  have HN := Lib.hid hn
  have t0 : True := trivial
  have h0n : ((n : Int) == 0) = false := by rw [beq_eq_false_iff_ne]; omega
  have h0I : (0 : Int) < (n : Int) := by omega
  have hblk := World.block_lt_of_cell? w a hcell
  have hdd := str_ne hd
  have hdd2 := str_ne (Ne.symm hd)
  clear hk hq hr hn hv1
  go_enter Try.func64, Try.ntmps64
  have HBB := Lib.hid hB
  go_wp2_with (first
    | (go_at_call 63; have _t := t0; (refine (N0.out _ (HB.out _ _)).mono ?_); rintro e w1 ⟨rfl, rfl⟩; clear t0 _t)
    | (go_at_call 60; (refine (CP.out _).mono ?_); rintro e w9 ⟨b9, A9, c9, rfl, h9⟩; obtain ⟨hz9, hm9, hbw⟩ := boxes_r b9; have m0x := cellAt hm9 (j := 0) rfl; have m1x := cellAt hm9 (j := 1) rfl; have m2x := cellAt hm9 (j := 2) rfl; have m3x := cellAt hm9 (j := 3) rfl; have m4x := cellAt hm9 (j := 4) rfl; have m5x := cellAt hm9 (j := 5) rfl; have m6x := cellAt hm9 (j := 6) rfl; have z0 := cellAt hz9 (j := 0) rfl; have f0 := frozenAt hz9 (j := 0); have z1 := cellAt hz9 (j := 1) rfl; have f1 := frozenAt hz9 (j := 1); have z2 := cellAt hz9 (j := 2) rfl; have f2 := frozenAt hz9 (j := 2); have z3 := cellAt hz9 (j := 3) rfl; have f3 := frozenAt hz9 (j := 3); have z4 := cellAt hz9 (j := 4) rfl; have f4 := frozenAt hz9 (j := 4); have z5 := cellAt hz9 (j := 5) rfl; have f5 := frozenAt hz9 (j := 5); have z6 := cellAt hz9 (j := 6) rfl; have f6 := frozenAt hz9 (j := 6); have cv1 := conv_any (HR.out.below (hbw.mono HBB.out)) n HN.out c; have cv2 := conv_any h9.rd _ rfl c9; clear b9 hz9 hm9)
    | fail)
  refine bodyPost_ret (v := .tuple #[zMsg, .bool false]) (by simp [results, Try.results64, go_sem, zMsg, z0, z1, z2, z3, z4, z5, z6]) rfl ⟨?_, rfl⟩
  exact ((((((hbw.setCell (p := ⟨w.heap.size, 0, none⟩) (Nat.le_refl _) _).setCell (p := ⟨w.heap.size, 1, none⟩) (Nat.le_refl _) _).setCell (p := ⟨w.heap.size, 2, none⟩) (Nat.le_refl _) _).setCell (p := ⟨w.heap.size, 3, none⟩) (Nat.le_refl _) _).setCell (p := ⟨w.heap.size, 4, none⟩) (Nat.le_refl _) _).setCell (p := ⟨w.heap.size, 5, none⟩) (Nat.le_refl _) _).setCell (p := ⟨w.heap.size, 6, none⟩) (Nat.le_refl _) _

set_option maxRecDepth 100000 in
set_option maxHeartbeats 2000000 in
theorem r_5_same (b : List UInt8) (n : Nat) (hn : n = b.length) (A : Option Addr) (c : Nat) (B : Nat) (w : World) (hr : Rd w B A (bv b)) (hB : B ≤ w.heap.size) (hl : n ≤ 1048576) (h0 : 0 < n) (hk : ((b[0]'(by omega)).toNat : Int) = 5) (v1 : Int) (hv1 : v1 = nul ((b.drop 1).take 8)) (hq : paySpec 5 ⟨#[]⟩ ⟨#[]⟩ 0 0 v1 0 = some b) :
    Calls Try.prog 64 #[.slice A n c] w (MsgOut w (some ⟨5, ⟨#[]⟩, 0, 0, v1, 0, ⟨#[]⟩⟩)) := by
  have N0 := Lib.hid (fun (W : World) (hb : Below B w W) => num_v b n hn (1) 8 1 8 rfl rfl (v1) hv1 (by omega) (by omega) A c B w W hr hb (by omega))
  have CP := Lib.hid (fun (W : World) => rpayload_any 5 ⟨#[]⟩ ⟨#[]⟩ 0 0 v1 0 W (by decide) (by decide))
  rw [hq] at CP
  obtain ⟨a, rfl, _, hcell⟩ := hr.byte (k := 0) (show 0 < b.length by omega)
  rw [hk, Addr.add_zero'] at hcell
  have HB := Lib.hid (two_r w B hB)
  have HR := Lib.hid hr
  have HN := Lib.hid hn
  have t0 : True := trivial
  have h0n : ((n : Int) == 0) = false := by rw [beq_eq_false_iff_ne]; omega
  have h0I : (0 : Int) < (n : Int) := by omega
  have hblk := World.block_lt_of_cell? w a hcell
  clear hk hq hr hn hv1
  go_enter Try.func64, Try.ntmps64
  have HBB := Lib.hid hB
  go_wp2_with (first
    | (go_at_call 63; have _t := t0; (refine (N0.out _ (HB.out _ _)).mono ?_); rintro e w1 ⟨rfl, rfl⟩; clear t0 _t)
    | (go_at_call 60; (refine (CP.out _).mono ?_); rintro e w9 ⟨b9, A9, c9, rfl, h9⟩; obtain ⟨hz9, hm9, hbw⟩ := boxes_r b9; have m0x := cellAt hm9 (j := 0) rfl; have m1x := cellAt hm9 (j := 1) rfl; have m2x := cellAt hm9 (j := 2) rfl; have m3x := cellAt hm9 (j := 3) rfl; have m4x := cellAt hm9 (j := 4) rfl; have m5x := cellAt hm9 (j := 5) rfl; have m6x := cellAt hm9 (j := 6) rfl; have z0 := cellAt hz9 (j := 0) rfl; have f0 := frozenAt hz9 (j := 0); have z1 := cellAt hz9 (j := 1) rfl; have f1 := frozenAt hz9 (j := 1); have z2 := cellAt hz9 (j := 2) rfl; have f2 := frozenAt hz9 (j := 2); have z3 := cellAt hz9 (j := 3) rfl; have f3 := frozenAt hz9 (j := 3); have z4 := cellAt hz9 (j := 4) rfl; have f4 := frozenAt hz9 (j := 4); have z5 := cellAt hz9 (j := 5) rfl; have f5 := frozenAt hz9 (j := 5); have z6 := cellAt hz9 (j := 6) rfl; have f6 := frozenAt hz9 (j := 6); have cv1 := conv_any (HR.out.below (hbw.mono HBB.out)) n HN.out c; have cv2 := conv_any h9.rd _ rfl c9; clear b9 hz9 hm9)
    | fail)
  refine bodyPost_ret (v := .tuple #[msgV ⟨5, ⟨#[]⟩, 0, 0, v1, 0, ⟨#[]⟩⟩, .bool true]) (by simp [results, Try.results64, go_sem, msgV, z0, z1, z2, z3, z4, z5, z6]) rfl ⟨?_, rfl⟩
  exact ((((((hbw.setCell (p := ⟨w.heap.size, 0, none⟩) (Nat.le_refl _) _).setCell (p := ⟨w.heap.size, 1, none⟩) (Nat.le_refl _) _).setCell (p := ⟨w.heap.size, 2, none⟩) (Nat.le_refl _) _).setCell (p := ⟨w.heap.size, 3, none⟩) (Nat.le_refl _) _).setCell (p := ⟨w.heap.size, 4, none⟩) (Nat.le_refl _) _).setCell (p := ⟨w.heap.size, 5, none⟩) (Nat.le_refl _) _).setCell (p := ⟨w.heap.size, 6, none⟩) (Nat.le_refl _) _

set_option maxRecDepth 100000 in
set_option maxHeartbeats 2000000 in
theorem r_4_none (b : List UInt8) (n : Nat) (hn : n = b.length) (A : Option Addr) (c : Nat) (B : Nat) (w : World) (hr : Rd w B A (bv b)) (hB : B ≤ w.heap.size) (hl : n ≤ 1048576) (h0 : 0 < n) (hk : ((b[0]'(by omega)).toNat : Int) = 4) (v1 : Int) (hv1 : v1 = nul ((b.drop 1).take 8)) (v2 : Int) (hv2 : v2 = nul ((b.drop 9).take 8)) (v3 : Int) (hv3 : v3 = nul ((b.drop 17).take 2)) (hq : paySpec 4 ⟨#[]⟩ ⟨#[]⟩ v2 0 v1 v3 = none) :
    Calls Try.prog 64 #[.slice A n c] w (MsgOut w none) := by
  have N0 := Lib.hid (fun (W : World) (hb : Below B w W) => num_v b n hn (1) 8 1 8 rfl rfl (v1) hv1 (by omega) (by omega) A c B w W hr hb (by omega))
  have N1 := Lib.hid (fun (W : World) (hb : Below B w W) => num_v b n hn (9) 8 9 8 rfl rfl (v2) hv2 (by omega) (by omega) A c B w W hr hb (by omega))
  have N2 := Lib.hid (fun (W : World) (hb : Below B w W) => num_v b n hn (17) 2 17 2 rfl rfl (v3) hv3 (by omega) (by omega) A c B w W hr hb (by omega))
  have CP := Lib.hid (fun (W : World) => rpayload_any 4 ⟨#[]⟩ ⟨#[]⟩ v2 0 v1 v3 W (by decide) (by decide))
  rw [hq] at CP
  obtain ⟨a, rfl, _, hcell⟩ := hr.byte (k := 0) (show 0 < b.length by omega)
  rw [hk, Addr.add_zero'] at hcell
  have HB := Lib.hid (two_r w B hB)
  have HR := Lib.hid hr
  have HN := Lib.hid hn
  have t0 : True := trivial
  have t1 : True := trivial
  have t2 : True := trivial
  have h0n : ((n : Int) == 0) = false := by rw [beq_eq_false_iff_ne]; omega
  have h0I : (0 : Int) < (n : Int) := by omega
  have hblk := World.block_lt_of_cell? w a hcell
  clear hk hq hr hn hv1 hv2 hv3
  go_enter Try.func64, Try.ntmps64
  go_wp2_with (first
    | (go_at_call 63; have _t := t0; (refine (N0.out _ (HB.out _ _)).mono ?_); rintro e w1 ⟨rfl, rfl⟩; clear t0 _t)
    | (go_at_call 63; have _t := t1; (refine (N1.out _ (HB.out _ _)).mono ?_); rintro e w1 ⟨rfl, rfl⟩; clear t1 _t)
    | (go_at_call 63; have _t := t2; (refine (N2.out _ (HB.out _ _)).mono ?_); rintro e w1 ⟨rfl, rfl⟩; clear t2 _t)
    | (go_at_call 60; (refine (CP.out _).mono ?_); rintro e w9 ⟨b9, v9, rfl⟩; obtain ⟨hz9, hm9, hbw⟩ := boxes_r b9; have m0x := cellAt hm9 (j := 0) rfl; have m1x := cellAt hm9 (j := 1) rfl; have m2x := cellAt hm9 (j := 2) rfl; have m3x := cellAt hm9 (j := 3) rfl; have m4x := cellAt hm9 (j := 4) rfl; have m5x := cellAt hm9 (j := 5) rfl; have m6x := cellAt hm9 (j := 6) rfl; have z0 := cellAt hz9 (j := 0) rfl; have f0 := frozenAt hz9 (j := 0); have z1 := cellAt hz9 (j := 1) rfl; have f1 := frozenAt hz9 (j := 1); have z2 := cellAt hz9 (j := 2) rfl; have f2 := frozenAt hz9 (j := 2); have z3 := cellAt hz9 (j := 3) rfl; have f3 := frozenAt hz9 (j := 3); have z4 := cellAt hz9 (j := 4) rfl; have f4 := frozenAt hz9 (j := 4); have z5 := cellAt hz9 (j := 5) rfl; have f5 := frozenAt hz9 (j := 5); have z6 := cellAt hz9 (j := 6) rfl; have f6 := frozenAt hz9 (j := 6); clear b9 hz9 hm9)
    | fail)
  refine bodyPost_ret (v := .tuple #[zMsg, .bool false]) (by simp [results, Try.results64, go_sem, zMsg, z0, z1, z2, z3, z4, z5, z6]) rfl ⟨?_, rfl⟩
  exact ((((((hbw.setCell (p := ⟨w.heap.size, 0, none⟩) (Nat.le_refl _) _).setCell (p := ⟨w.heap.size, 1, none⟩) (Nat.le_refl _) _).setCell (p := ⟨w.heap.size, 2, none⟩) (Nat.le_refl _) _).setCell (p := ⟨w.heap.size, 3, none⟩) (Nat.le_refl _) _).setCell (p := ⟨w.heap.size, 4, none⟩) (Nat.le_refl _) _).setCell (p := ⟨w.heap.size, 5, none⟩) (Nat.le_refl _) _).setCell (p := ⟨w.heap.size, 6, none⟩) (Nat.le_refl _) _

set_option maxRecDepth 100000 in
set_option maxHeartbeats 2000000 in
theorem r_4_diff (b : List UInt8) (n : Nat) (hn : n = b.length) (A : Option Addr) (c : Nat) (B : Nat) (w : World) (hr : Rd w B A (bv b)) (hB : B ≤ w.heap.size) (hl : n ≤ 1048576) (h0 : 0 < n) (hk : ((b[0]'(by omega)).toNat : Int) = 4) (v1 : Int) (hv1 : v1 = nul ((b.drop 1).take 8)) (v2 : Int) (hv2 : v2 = nul ((b.drop 9).take 8)) (v3 : Int) (hv3 : v3 = nul ((b.drop 17).take 2)) (q : List UInt8) (hq : paySpec 4 ⟨#[]⟩ ⟨#[]⟩ v2 0 v1 v3 = some q) (hd : q ≠ b) :
    Calls Try.prog 64 #[.slice A n c] w (MsgOut w none) := by
  have N0 := Lib.hid (fun (W : World) (hb : Below B w W) => num_v b n hn (1) 8 1 8 rfl rfl (v1) hv1 (by omega) (by omega) A c B w W hr hb (by omega))
  have N1 := Lib.hid (fun (W : World) (hb : Below B w W) => num_v b n hn (9) 8 9 8 rfl rfl (v2) hv2 (by omega) (by omega) A c B w W hr hb (by omega))
  have N2 := Lib.hid (fun (W : World) (hb : Below B w W) => num_v b n hn (17) 2 17 2 rfl rfl (v3) hv3 (by omega) (by omega) A c B w W hr hb (by omega))
  have CP := Lib.hid (fun (W : World) => rpayload_any 4 ⟨#[]⟩ ⟨#[]⟩ v2 0 v1 v3 W (by decide) (by decide))
  rw [hq] at CP
  obtain ⟨a, rfl, _, hcell⟩ := hr.byte (k := 0) (show 0 < b.length by omega)
  rw [hk, Addr.add_zero'] at hcell
  have HB := Lib.hid (two_r w B hB)
  have HR := Lib.hid hr
  have HN := Lib.hid hn
  have t0 : True := trivial
  have t1 : True := trivial
  have t2 : True := trivial
  have h0n : ((n : Int) == 0) = false := by rw [beq_eq_false_iff_ne]; omega
  have h0I : (0 : Int) < (n : Int) := by omega
  have hblk := World.block_lt_of_cell? w a hcell
  have hdd := str_ne hd
  have hdd2 := str_ne (Ne.symm hd)
  clear hk hq hr hn hv1 hv2 hv3
  go_enter Try.func64, Try.ntmps64
  have HBB := Lib.hid hB
  go_wp2_with (first
    | (go_at_call 63; have _t := t0; (refine (N0.out _ (HB.out _ _)).mono ?_); rintro e w1 ⟨rfl, rfl⟩; clear t0 _t)
    | (go_at_call 63; have _t := t1; (refine (N1.out _ (HB.out _ _)).mono ?_); rintro e w1 ⟨rfl, rfl⟩; clear t1 _t)
    | (go_at_call 63; have _t := t2; (refine (N2.out _ (HB.out _ _)).mono ?_); rintro e w1 ⟨rfl, rfl⟩; clear t2 _t)
    | (go_at_call 60; (refine (CP.out _).mono ?_); rintro e w9 ⟨b9, A9, c9, rfl, h9⟩; obtain ⟨hz9, hm9, hbw⟩ := boxes_r b9; have m0x := cellAt hm9 (j := 0) rfl; have m1x := cellAt hm9 (j := 1) rfl; have m2x := cellAt hm9 (j := 2) rfl; have m3x := cellAt hm9 (j := 3) rfl; have m4x := cellAt hm9 (j := 4) rfl; have m5x := cellAt hm9 (j := 5) rfl; have m6x := cellAt hm9 (j := 6) rfl; have z0 := cellAt hz9 (j := 0) rfl; have f0 := frozenAt hz9 (j := 0); have z1 := cellAt hz9 (j := 1) rfl; have f1 := frozenAt hz9 (j := 1); have z2 := cellAt hz9 (j := 2) rfl; have f2 := frozenAt hz9 (j := 2); have z3 := cellAt hz9 (j := 3) rfl; have f3 := frozenAt hz9 (j := 3); have z4 := cellAt hz9 (j := 4) rfl; have f4 := frozenAt hz9 (j := 4); have z5 := cellAt hz9 (j := 5) rfl; have f5 := frozenAt hz9 (j := 5); have z6 := cellAt hz9 (j := 6) rfl; have f6 := frozenAt hz9 (j := 6); have cv1 := conv_any (HR.out.below (hbw.mono HBB.out)) n HN.out c; have cv2 := conv_any h9.rd _ rfl c9; clear b9 hz9 hm9)
    | fail)
  refine bodyPost_ret (v := .tuple #[zMsg, .bool false]) (by simp [results, Try.results64, go_sem, zMsg, z0, z1, z2, z3, z4, z5, z6]) rfl ⟨?_, rfl⟩
  exact ((((((hbw.setCell (p := ⟨w.heap.size, 0, none⟩) (Nat.le_refl _) _).setCell (p := ⟨w.heap.size, 1, none⟩) (Nat.le_refl _) _).setCell (p := ⟨w.heap.size, 2, none⟩) (Nat.le_refl _) _).setCell (p := ⟨w.heap.size, 3, none⟩) (Nat.le_refl _) _).setCell (p := ⟨w.heap.size, 4, none⟩) (Nat.le_refl _) _).setCell (p := ⟨w.heap.size, 5, none⟩) (Nat.le_refl _) _).setCell (p := ⟨w.heap.size, 6, none⟩) (Nat.le_refl _) _

set_option maxRecDepth 100000 in
set_option maxHeartbeats 2000000 in
theorem r_4_same (b : List UInt8) (n : Nat) (hn : n = b.length) (A : Option Addr) (c : Nat) (B : Nat) (w : World) (hr : Rd w B A (bv b)) (hB : B ≤ w.heap.size) (hl : n ≤ 1048576) (h0 : 0 < n) (hk : ((b[0]'(by omega)).toNat : Int) = 4) (v1 : Int) (hv1 : v1 = nul ((b.drop 1).take 8)) (v2 : Int) (hv2 : v2 = nul ((b.drop 9).take 8)) (v3 : Int) (hv3 : v3 = nul ((b.drop 17).take 2)) (hq : paySpec 4 ⟨#[]⟩ ⟨#[]⟩ v2 0 v1 v3 = some b) :
    Calls Try.prog 64 #[.slice A n c] w (MsgOut w (some ⟨4, ⟨#[]⟩, v2, 0, v1, v3, ⟨#[]⟩⟩)) := by
  have N0 := Lib.hid (fun (W : World) (hb : Below B w W) => num_v b n hn (1) 8 1 8 rfl rfl (v1) hv1 (by omega) (by omega) A c B w W hr hb (by omega))
  have N1 := Lib.hid (fun (W : World) (hb : Below B w W) => num_v b n hn (9) 8 9 8 rfl rfl (v2) hv2 (by omega) (by omega) A c B w W hr hb (by omega))
  have N2 := Lib.hid (fun (W : World) (hb : Below B w W) => num_v b n hn (17) 2 17 2 rfl rfl (v3) hv3 (by omega) (by omega) A c B w W hr hb (by omega))
  have CP := Lib.hid (fun (W : World) => rpayload_any 4 ⟨#[]⟩ ⟨#[]⟩ v2 0 v1 v3 W (by decide) (by decide))
  rw [hq] at CP
  obtain ⟨a, rfl, _, hcell⟩ := hr.byte (k := 0) (show 0 < b.length by omega)
  rw [hk, Addr.add_zero'] at hcell
  have HB := Lib.hid (two_r w B hB)
  have HR := Lib.hid hr
  have HN := Lib.hid hn
  have t0 : True := trivial
  have t1 : True := trivial
  have t2 : True := trivial
  have h0n : ((n : Int) == 0) = false := by rw [beq_eq_false_iff_ne]; omega
  have h0I : (0 : Int) < (n : Int) := by omega
  have hblk := World.block_lt_of_cell? w a hcell
  clear hk hq hr hn hv1 hv2 hv3
  go_enter Try.func64, Try.ntmps64
  have HBB := Lib.hid hB
  go_wp2_with (first
    | (go_at_call 63; have _t := t0; (refine (N0.out _ (HB.out _ _)).mono ?_); rintro e w1 ⟨rfl, rfl⟩; clear t0 _t)
    | (go_at_call 63; have _t := t1; (refine (N1.out _ (HB.out _ _)).mono ?_); rintro e w1 ⟨rfl, rfl⟩; clear t1 _t)
    | (go_at_call 63; have _t := t2; (refine (N2.out _ (HB.out _ _)).mono ?_); rintro e w1 ⟨rfl, rfl⟩; clear t2 _t)
    | (go_at_call 60; (refine (CP.out _).mono ?_); rintro e w9 ⟨b9, A9, c9, rfl, h9⟩; obtain ⟨hz9, hm9, hbw⟩ := boxes_r b9; have m0x := cellAt hm9 (j := 0) rfl; have m1x := cellAt hm9 (j := 1) rfl; have m2x := cellAt hm9 (j := 2) rfl; have m3x := cellAt hm9 (j := 3) rfl; have m4x := cellAt hm9 (j := 4) rfl; have m5x := cellAt hm9 (j := 5) rfl; have m6x := cellAt hm9 (j := 6) rfl; have z0 := cellAt hz9 (j := 0) rfl; have f0 := frozenAt hz9 (j := 0); have z1 := cellAt hz9 (j := 1) rfl; have f1 := frozenAt hz9 (j := 1); have z2 := cellAt hz9 (j := 2) rfl; have f2 := frozenAt hz9 (j := 2); have z3 := cellAt hz9 (j := 3) rfl; have f3 := frozenAt hz9 (j := 3); have z4 := cellAt hz9 (j := 4) rfl; have f4 := frozenAt hz9 (j := 4); have z5 := cellAt hz9 (j := 5) rfl; have f5 := frozenAt hz9 (j := 5); have z6 := cellAt hz9 (j := 6) rfl; have f6 := frozenAt hz9 (j := 6); have cv1 := conv_any (HR.out.below (hbw.mono HBB.out)) n HN.out c; have cv2 := conv_any h9.rd _ rfl c9; clear b9 hz9 hm9)
    | fail)
  refine bodyPost_ret (v := .tuple #[msgV ⟨4, ⟨#[]⟩, v2, 0, v1, v3, ⟨#[]⟩⟩, .bool true]) (by simp [results, Try.results64, go_sem, msgV, z0, z1, z2, z3, z4, z5, z6]) rfl ⟨?_, rfl⟩
  exact ((((((hbw.setCell (p := ⟨w.heap.size, 0, none⟩) (Nat.le_refl _) _).setCell (p := ⟨w.heap.size, 1, none⟩) (Nat.le_refl _) _).setCell (p := ⟨w.heap.size, 2, none⟩) (Nat.le_refl _) _).setCell (p := ⟨w.heap.size, 3, none⟩) (Nat.le_refl _) _).setCell (p := ⟨w.heap.size, 4, none⟩) (Nat.le_refl _) _).setCell (p := ⟨w.heap.size, 5, none⟩) (Nat.le_refl _) _).setCell (p := ⟨w.heap.size, 6, none⟩) (Nat.le_refl _) _

set_option maxRecDepth 100000 in
set_option maxHeartbeats 2000000 in
theorem r_2_none (b : List UInt8) (n : Nat) (hn : n = b.length) (A : Option Addr) (c : Nat) (hc : n ≤ c) (B : Nat) (w : World) (hr : Rd w B A (bv b)) (hB : B ≤ w.heap.size) (hl : n ≤ 1048576) (h0 : 0 < n) (hk : ((b[0]'(by omega)).toNat : Int) = 2) (v1 : Int) (hv1 : v1 = nul ((b.drop 1).take 8)) (v2 : Int) (hv2 : v2 = nul ((b.drop 9).take 8)) (v3 : Int) (hv3 : v3 = nul ((b.drop 17).take 8)) (tx : ByteArray) (htx : tx = str ((b.drop 29).take 1048576)) (hq : paySpec 2 ⟨#[]⟩ tx v3 v2 v1 0 = none) (htb : tx.size ≤ 1048576) :
    Calls Try.prog 64 #[.slice A n c] w (MsgOut w none) := by
  have N0 := Lib.hid (fun (W : World) (hb : Below B w W) => num_v b n hn (1) 8 1 8 rfl rfl (v1) hv1 (by omega) (by omega) A c B w W hr hb (by omega))
  have N1 := Lib.hid (fun (W : World) (hb : Below B w W) => num_v b n hn (9) 8 9 8 rfl rfl (v2) hv2 (by omega) (by omega) A c B w W hr hb (by omega))
  have N2 := Lib.hid (fun (W : World) (hb : Below B w W) => num_v b n hn (17) 8 17 8 rfl rfl (v3) hv3 (by omega) (by omega) A c B w W hr hb (by omega))
  have N3 := Lib.hid (fun (W : World) (hb : Below B w W) => text_v b n hn 29 1048576 29 1048576 rfl rfl tx htx (by omega) (by omega) A c hc B w W hr hb (by omega))
  have CP := Lib.hid (fun (W : World) => rpayload_any 2 ⟨#[]⟩ tx v3 v2 v1 0 W (by decide) (Nat.le_trans htb (by decide)))
  rw [hq] at CP
  obtain ⟨a, rfl, _, hcell⟩ := hr.byte (k := 0) (show 0 < b.length by omega)
  rw [hk, Addr.add_zero'] at hcell
  have HB := Lib.hid (two_r w B hB)
  have HR := Lib.hid hr
  have HN := Lib.hid hn
  have t0 : True := trivial
  have t1 : True := trivial
  have t2 : True := trivial
  have t3 : True := trivial
  have h0n : ((n : Int) == 0) = false := by rw [beq_eq_false_iff_ne]; omega
  have h0I : (0 : Int) < (n : Int) := by omega
  have hblk := World.block_lt_of_cell? w a hcell
  clear hk hq hr hn hv1 hv2 hv3 htx
  go_enter Try.func64, Try.ntmps64
  go_wp2_with (first
    | (go_at_call 63; have _t := t0; (refine (N0.out _ (HB.out _ _)).mono ?_); rintro e w1 ⟨rfl, rfl⟩; clear t0 _t)
    | (go_at_call 63; have _t := t1; (refine (N1.out _ (HB.out _ _)).mono ?_); rintro e w1 ⟨rfl, rfl⟩; clear t1 _t)
    | (go_at_call 63; have _t := t2; (refine (N2.out _ (HB.out _ _)).mono ?_); rintro e w1 ⟨rfl, rfl⟩; clear t2 _t)
    | (go_at_call 70; (refine (N3.out _ (HB.out _ _)).mono ?_); rintro e w1 ⟨rfl, rfl⟩)
    | (go_at_call 60; (refine (CP.out _).mono ?_); rintro e w9 ⟨b9, v9, rfl⟩; obtain ⟨hz9, hm9, hbw⟩ := boxes_r b9; have m0x := cellAt hm9 (j := 0) rfl; have m1x := cellAt hm9 (j := 1) rfl; have m2x := cellAt hm9 (j := 2) rfl; have m3x := cellAt hm9 (j := 3) rfl; have m4x := cellAt hm9 (j := 4) rfl; have m5x := cellAt hm9 (j := 5) rfl; have m6x := cellAt hm9 (j := 6) rfl; have z0 := cellAt hz9 (j := 0) rfl; have f0 := frozenAt hz9 (j := 0); have z1 := cellAt hz9 (j := 1) rfl; have f1 := frozenAt hz9 (j := 1); have z2 := cellAt hz9 (j := 2) rfl; have f2 := frozenAt hz9 (j := 2); have z3 := cellAt hz9 (j := 3) rfl; have f3 := frozenAt hz9 (j := 3); have z4 := cellAt hz9 (j := 4) rfl; have f4 := frozenAt hz9 (j := 4); have z5 := cellAt hz9 (j := 5) rfl; have f5 := frozenAt hz9 (j := 5); have z6 := cellAt hz9 (j := 6) rfl; have f6 := frozenAt hz9 (j := 6); clear b9 hz9 hm9)
    | fail)
  refine bodyPost_ret (v := .tuple #[zMsg, .bool false]) (by simp [results, Try.results64, go_sem, zMsg, z0, z1, z2, z3, z4, z5, z6]) rfl ⟨?_, rfl⟩
  exact ((((((hbw.setCell (p := ⟨w.heap.size, 0, none⟩) (Nat.le_refl _) _).setCell (p := ⟨w.heap.size, 1, none⟩) (Nat.le_refl _) _).setCell (p := ⟨w.heap.size, 2, none⟩) (Nat.le_refl _) _).setCell (p := ⟨w.heap.size, 3, none⟩) (Nat.le_refl _) _).setCell (p := ⟨w.heap.size, 4, none⟩) (Nat.le_refl _) _).setCell (p := ⟨w.heap.size, 5, none⟩) (Nat.le_refl _) _).setCell (p := ⟨w.heap.size, 6, none⟩) (Nat.le_refl _) _

set_option maxRecDepth 100000 in
set_option maxHeartbeats 2000000 in
theorem r_2_diff (b : List UInt8) (n : Nat) (hn : n = b.length) (A : Option Addr) (c : Nat) (hc : n ≤ c) (B : Nat) (w : World) (hr : Rd w B A (bv b)) (hB : B ≤ w.heap.size) (hl : n ≤ 1048576) (h0 : 0 < n) (hk : ((b[0]'(by omega)).toNat : Int) = 2) (v1 : Int) (hv1 : v1 = nul ((b.drop 1).take 8)) (v2 : Int) (hv2 : v2 = nul ((b.drop 9).take 8)) (v3 : Int) (hv3 : v3 = nul ((b.drop 17).take 8)) (tx : ByteArray) (htx : tx = str ((b.drop 29).take 1048576)) (q : List UInt8) (hq : paySpec 2 ⟨#[]⟩ tx v3 v2 v1 0 = some q) (hd : q ≠ b) (htb : tx.size ≤ 1048576) :
    Calls Try.prog 64 #[.slice A n c] w (MsgOut w none) := by
  have N0 := Lib.hid (fun (W : World) (hb : Below B w W) => num_v b n hn (1) 8 1 8 rfl rfl (v1) hv1 (by omega) (by omega) A c B w W hr hb (by omega))
  have N1 := Lib.hid (fun (W : World) (hb : Below B w W) => num_v b n hn (9) 8 9 8 rfl rfl (v2) hv2 (by omega) (by omega) A c B w W hr hb (by omega))
  have N2 := Lib.hid (fun (W : World) (hb : Below B w W) => num_v b n hn (17) 8 17 8 rfl rfl (v3) hv3 (by omega) (by omega) A c B w W hr hb (by omega))
  have N3 := Lib.hid (fun (W : World) (hb : Below B w W) => text_v b n hn 29 1048576 29 1048576 rfl rfl tx htx (by omega) (by omega) A c hc B w W hr hb (by omega))
  have CP := Lib.hid (fun (W : World) => rpayload_any 2 ⟨#[]⟩ tx v3 v2 v1 0 W (by decide) (Nat.le_trans htb (by decide)))
  rw [hq] at CP
  obtain ⟨a, rfl, _, hcell⟩ := hr.byte (k := 0) (show 0 < b.length by omega)
  rw [hk, Addr.add_zero'] at hcell
  have HB := Lib.hid (two_r w B hB)
  have HR := Lib.hid hr
  have HN := Lib.hid hn
  have t0 : True := trivial
  have t1 : True := trivial
  have t2 : True := trivial
  have t3 : True := trivial
  have h0n : ((n : Int) == 0) = false := by rw [beq_eq_false_iff_ne]; omega
  have h0I : (0 : Int) < (n : Int) := by omega
  have hblk := World.block_lt_of_cell? w a hcell
  have hdd := str_ne hd
  have hdd2 := str_ne (Ne.symm hd)
  clear hk hq hr hn hv1 hv2 hv3 htx
  go_enter Try.func64, Try.ntmps64
  have HBB := Lib.hid hB
  go_wp2_with (first
    | (go_at_call 63; have _t := t0; (refine (N0.out _ (HB.out _ _)).mono ?_); rintro e w1 ⟨rfl, rfl⟩; clear t0 _t)
    | (go_at_call 63; have _t := t1; (refine (N1.out _ (HB.out _ _)).mono ?_); rintro e w1 ⟨rfl, rfl⟩; clear t1 _t)
    | (go_at_call 63; have _t := t2; (refine (N2.out _ (HB.out _ _)).mono ?_); rintro e w1 ⟨rfl, rfl⟩; clear t2 _t)
    | (go_at_call 70; (refine (N3.out _ (HB.out _ _)).mono ?_); rintro e w1 ⟨rfl, rfl⟩)
    | (go_at_call 60; (refine (CP.out _).mono ?_); rintro e w9 ⟨b9, A9, c9, rfl, h9⟩; obtain ⟨hz9, hm9, hbw⟩ := boxes_r b9; have m0x := cellAt hm9 (j := 0) rfl; have m1x := cellAt hm9 (j := 1) rfl; have m2x := cellAt hm9 (j := 2) rfl; have m3x := cellAt hm9 (j := 3) rfl; have m4x := cellAt hm9 (j := 4) rfl; have m5x := cellAt hm9 (j := 5) rfl; have m6x := cellAt hm9 (j := 6) rfl; have z0 := cellAt hz9 (j := 0) rfl; have f0 := frozenAt hz9 (j := 0); have z1 := cellAt hz9 (j := 1) rfl; have f1 := frozenAt hz9 (j := 1); have z2 := cellAt hz9 (j := 2) rfl; have f2 := frozenAt hz9 (j := 2); have z3 := cellAt hz9 (j := 3) rfl; have f3 := frozenAt hz9 (j := 3); have z4 := cellAt hz9 (j := 4) rfl; have f4 := frozenAt hz9 (j := 4); have z5 := cellAt hz9 (j := 5) rfl; have f5 := frozenAt hz9 (j := 5); have z6 := cellAt hz9 (j := 6) rfl; have f6 := frozenAt hz9 (j := 6); have cv1 := conv_any (HR.out.below (hbw.mono HBB.out)) n HN.out c; have cv2 := conv_any h9.rd _ rfl c9; clear b9 hz9 hm9)
    | fail)
  refine bodyPost_ret (v := .tuple #[zMsg, .bool false]) (by simp [results, Try.results64, go_sem, zMsg, z0, z1, z2, z3, z4, z5, z6]) rfl ⟨?_, rfl⟩
  exact ((((((hbw.setCell (p := ⟨w.heap.size, 0, none⟩) (Nat.le_refl _) _).setCell (p := ⟨w.heap.size, 1, none⟩) (Nat.le_refl _) _).setCell (p := ⟨w.heap.size, 2, none⟩) (Nat.le_refl _) _).setCell (p := ⟨w.heap.size, 3, none⟩) (Nat.le_refl _) _).setCell (p := ⟨w.heap.size, 4, none⟩) (Nat.le_refl _) _).setCell (p := ⟨w.heap.size, 5, none⟩) (Nat.le_refl _) _).setCell (p := ⟨w.heap.size, 6, none⟩) (Nat.le_refl _) _

set_option maxRecDepth 100000 in
set_option maxHeartbeats 2000000 in
theorem r_2_same (b : List UInt8) (n : Nat) (hn : n = b.length) (A : Option Addr) (c : Nat) (hc : n ≤ c) (B : Nat) (w : World) (hr : Rd w B A (bv b)) (hB : B ≤ w.heap.size) (hl : n ≤ 1048576) (h0 : 0 < n) (hk : ((b[0]'(by omega)).toNat : Int) = 2) (v1 : Int) (hv1 : v1 = nul ((b.drop 1).take 8)) (v2 : Int) (hv2 : v2 = nul ((b.drop 9).take 8)) (v3 : Int) (hv3 : v3 = nul ((b.drop 17).take 8)) (tx : ByteArray) (htx : tx = str ((b.drop 29).take 1048576)) (hq : paySpec 2 ⟨#[]⟩ tx v3 v2 v1 0 = some b) (htb : tx.size ≤ 1048576) :
    Calls Try.prog 64 #[.slice A n c] w (MsgOut w (some ⟨2, ⟨#[]⟩, v3, v2, v1, 0, tx⟩)) := by
  have N0 := Lib.hid (fun (W : World) (hb : Below B w W) => num_v b n hn (1) 8 1 8 rfl rfl (v1) hv1 (by omega) (by omega) A c B w W hr hb (by omega))
  have N1 := Lib.hid (fun (W : World) (hb : Below B w W) => num_v b n hn (9) 8 9 8 rfl rfl (v2) hv2 (by omega) (by omega) A c B w W hr hb (by omega))
  have N2 := Lib.hid (fun (W : World) (hb : Below B w W) => num_v b n hn (17) 8 17 8 rfl rfl (v3) hv3 (by omega) (by omega) A c B w W hr hb (by omega))
  have N3 := Lib.hid (fun (W : World) (hb : Below B w W) => text_v b n hn 29 1048576 29 1048576 rfl rfl tx htx (by omega) (by omega) A c hc B w W hr hb (by omega))
  have CP := Lib.hid (fun (W : World) => rpayload_any 2 ⟨#[]⟩ tx v3 v2 v1 0 W (by decide) (Nat.le_trans htb (by decide)))
  rw [hq] at CP
  obtain ⟨a, rfl, _, hcell⟩ := hr.byte (k := 0) (show 0 < b.length by omega)
  rw [hk, Addr.add_zero'] at hcell
  have HB := Lib.hid (two_r w B hB)
  have HR := Lib.hid hr
  have HN := Lib.hid hn
  have t0 : True := trivial
  have t1 : True := trivial
  have t2 : True := trivial
  have t3 : True := trivial
  have h0n : ((n : Int) == 0) = false := by rw [beq_eq_false_iff_ne]; omega
  have h0I : (0 : Int) < (n : Int) := by omega
  have hblk := World.block_lt_of_cell? w a hcell
  clear hk hq hr hn hv1 hv2 hv3 htx
  go_enter Try.func64, Try.ntmps64
  have HBB := Lib.hid hB
  go_wp2_with (first
    | (go_at_call 63; have _t := t0; (refine (N0.out _ (HB.out _ _)).mono ?_); rintro e w1 ⟨rfl, rfl⟩; clear t0 _t)
    | (go_at_call 63; have _t := t1; (refine (N1.out _ (HB.out _ _)).mono ?_); rintro e w1 ⟨rfl, rfl⟩; clear t1 _t)
    | (go_at_call 63; have _t := t2; (refine (N2.out _ (HB.out _ _)).mono ?_); rintro e w1 ⟨rfl, rfl⟩; clear t2 _t)
    | (go_at_call 70; (refine (N3.out _ (HB.out _ _)).mono ?_); rintro e w1 ⟨rfl, rfl⟩)
    | (go_at_call 60; (refine (CP.out _).mono ?_); rintro e w9 ⟨b9, A9, c9, rfl, h9⟩; obtain ⟨hz9, hm9, hbw⟩ := boxes_r b9; have m0x := cellAt hm9 (j := 0) rfl; have m1x := cellAt hm9 (j := 1) rfl; have m2x := cellAt hm9 (j := 2) rfl; have m3x := cellAt hm9 (j := 3) rfl; have m4x := cellAt hm9 (j := 4) rfl; have m5x := cellAt hm9 (j := 5) rfl; have m6x := cellAt hm9 (j := 6) rfl; have z0 := cellAt hz9 (j := 0) rfl; have f0 := frozenAt hz9 (j := 0); have z1 := cellAt hz9 (j := 1) rfl; have f1 := frozenAt hz9 (j := 1); have z2 := cellAt hz9 (j := 2) rfl; have f2 := frozenAt hz9 (j := 2); have z3 := cellAt hz9 (j := 3) rfl; have f3 := frozenAt hz9 (j := 3); have z4 := cellAt hz9 (j := 4) rfl; have f4 := frozenAt hz9 (j := 4); have z5 := cellAt hz9 (j := 5) rfl; have f5 := frozenAt hz9 (j := 5); have z6 := cellAt hz9 (j := 6) rfl; have f6 := frozenAt hz9 (j := 6); have cv1 := conv_any (HR.out.below (hbw.mono HBB.out)) n HN.out c; have cv2 := conv_any h9.rd _ rfl c9; clear b9 hz9 hm9)
    | fail)
  refine bodyPost_ret (v := .tuple #[msgV ⟨2, ⟨#[]⟩, v3, v2, v1, 0, tx⟩, .bool true]) (by simp [results, Try.results64, go_sem, msgV, z0, z1, z2, z3, z4, z5, z6]) rfl ⟨?_, rfl⟩
  exact ((((((hbw.setCell (p := ⟨w.heap.size, 0, none⟩) (Nat.le_refl _) _).setCell (p := ⟨w.heap.size, 1, none⟩) (Nat.le_refl _) _).setCell (p := ⟨w.heap.size, 2, none⟩) (Nat.le_refl _) _).setCell (p := ⟨w.heap.size, 3, none⟩) (Nat.le_refl _) _).setCell (p := ⟨w.heap.size, 4, none⟩) (Nat.le_refl _) _).setCell (p := ⟨w.heap.size, 5, none⟩) (Nat.le_refl _) _).setCell (p := ⟨w.heap.size, 6, none⟩) (Nat.le_refl _) _

set_option maxRecDepth 100000 in
set_option maxHeartbeats 2000000 in
theorem r_1_none (b : List UInt8) (n : Nat) (hn : n = b.length) (A : Option Addr) (c : Nat) (hc : n ≤ c) (B : Nat) (w : World) (hr : Rd w B A (bv b)) (hB : B ≤ w.heap.size) (hl : n ≤ 1048576) (h0 : 0 < n) (hk : ((b[0]'(by omega)).toNat : Int) = 1) (m1 : Nat) (hmb : m1 ≤ 255) (hm1 : (m1 : Int) = nul ((b.drop 1).take 1)) (nm : ByteArray) (hnm : nm = str ((b.drop 2).take m1)) (v2 : Int) (hv2 : v2 = nul ((b.drop (2 + m1)).take 8)) (hq : paySpec 1 nm ⟨#[]⟩ v2 0 0 0 = none) (hnb : nm.size ≤ 1048576) :
    Calls Try.prog 64 #[.slice A n c] w (MsgOut w none) := by
  obtain ⟨pz, hpz0⟩ : ∃ pz, pz = 2 + m1 := ⟨_, rfl⟩
  have hpz : (pz : Int) = ((2 + m1 : Nat) : Int) := by omega
  have hpzI : (2 : Int) + (m1 : Int) = (pz : Int) := by omega
  have N0 := Lib.hid (fun (W : World) (hb : Below B w W) => num_v b n hn (1) 1 1 1 rfl rfl ((m1 : Int)) hm1 (by omega) (by omega) A c B w W hr hb (by omega))
  have N1 := Lib.hid (fun (W : World) (hb : Below B w W) => text_v b n hn 2 m1 2 (m1 : Int) rfl rfl nm hnm (by omega) (by omega) A c hc B w W hr hb (by omega))
  have N2 := Lib.hid (fun (W : World) (hb : Below B w W) => num_v b n hn (2 + m1) 8 (pz : Int) 8 hpz rfl (v2) hv2 (by omega) (by omega) A c B w W hr hb (by omega))
  have CP := Lib.hid (fun (W : World) => rpayload_any 1 nm ⟨#[]⟩ v2 0 0 0 W (Nat.le_trans hnb (by decide)) (by decide))
  rw [hq] at CP
  obtain ⟨a, rfl, _, hcell⟩ := hr.byte (k := 0) (show 0 < b.length by omega)
  rw [hk, Addr.add_zero'] at hcell
  have HB := Lib.hid (two_r w B hB)
  have HR := Lib.hid hr
  have HN := Lib.hid hn
  have t0 : True := trivial
  have t1 : True := trivial
  have t2 : True := trivial
  have h0n : ((n : Int) == 0) = false := by rw [beq_eq_false_iff_ne]; omega
  have h0I : (0 : Int) < (n : Int) := by omega
  have hblk := World.block_lt_of_cell? w a hcell
  clear hk hq hr hn hpz hpz0 hm1 hnm hv2
  go_enter Try.func64, Try.ntmps64
  go_wp2_with (first
    | (go_at_call 63; have _t := t0; (refine (N0.out _ (HB.out _ _)).mono ?_); rintro e w1 ⟨rfl, rfl⟩; clear t0 _t)
    | (go_at_call 70; (refine (N1.out _ (HB.out _ _)).mono ?_); rintro e w1 ⟨rfl, rfl⟩)
    | (go_at_call 63; have _t := t2; (refine (N2.out _ (HB.out _ _)).mono ?_); rintro e w1 ⟨rfl, rfl⟩; clear t2 _t)
    | (go_at_call 60; (refine (CP.out _).mono ?_); rintro e w9 ⟨b9, v9, rfl⟩; obtain ⟨hz9, hm9, hbw⟩ := boxes_r b9; have m0x := cellAt hm9 (j := 0) rfl; have m1x := cellAt hm9 (j := 1) rfl; have m2x := cellAt hm9 (j := 2) rfl; have m3x := cellAt hm9 (j := 3) rfl; have m4x := cellAt hm9 (j := 4) rfl; have m5x := cellAt hm9 (j := 5) rfl; have m6x := cellAt hm9 (j := 6) rfl; have z0 := cellAt hz9 (j := 0) rfl; have f0 := frozenAt hz9 (j := 0); have z1 := cellAt hz9 (j := 1) rfl; have f1 := frozenAt hz9 (j := 1); have z2 := cellAt hz9 (j := 2) rfl; have f2 := frozenAt hz9 (j := 2); have z3 := cellAt hz9 (j := 3) rfl; have f3 := frozenAt hz9 (j := 3); have z4 := cellAt hz9 (j := 4) rfl; have f4 := frozenAt hz9 (j := 4); have z5 := cellAt hz9 (j := 5) rfl; have f5 := frozenAt hz9 (j := 5); have z6 := cellAt hz9 (j := 6) rfl; have f6 := frozenAt hz9 (j := 6); clear b9 hz9 hm9)
    | fail)
  refine bodyPost_ret (v := .tuple #[zMsg, .bool false]) (by simp [results, Try.results64, go_sem, zMsg, z0, z1, z2, z3, z4, z5, z6]) rfl ⟨?_, rfl⟩
  exact ((((((hbw.setCell (p := ⟨w.heap.size, 0, none⟩) (Nat.le_refl _) _).setCell (p := ⟨w.heap.size, 1, none⟩) (Nat.le_refl _) _).setCell (p := ⟨w.heap.size, 2, none⟩) (Nat.le_refl _) _).setCell (p := ⟨w.heap.size, 3, none⟩) (Nat.le_refl _) _).setCell (p := ⟨w.heap.size, 4, none⟩) (Nat.le_refl _) _).setCell (p := ⟨w.heap.size, 5, none⟩) (Nat.le_refl _) _).setCell (p := ⟨w.heap.size, 6, none⟩) (Nat.le_refl _) _

set_option maxRecDepth 100000 in
set_option maxHeartbeats 2000000 in
theorem r_1_diff (b : List UInt8) (n : Nat) (hn : n = b.length) (A : Option Addr) (c : Nat) (hc : n ≤ c) (B : Nat) (w : World) (hr : Rd w B A (bv b)) (hB : B ≤ w.heap.size) (hl : n ≤ 1048576) (h0 : 0 < n) (hk : ((b[0]'(by omega)).toNat : Int) = 1) (m1 : Nat) (hmb : m1 ≤ 255) (hm1 : (m1 : Int) = nul ((b.drop 1).take 1)) (nm : ByteArray) (hnm : nm = str ((b.drop 2).take m1)) (v2 : Int) (hv2 : v2 = nul ((b.drop (2 + m1)).take 8)) (q : List UInt8) (hq : paySpec 1 nm ⟨#[]⟩ v2 0 0 0 = some q) (hd : q ≠ b) (hnb : nm.size ≤ 1048576) :
    Calls Try.prog 64 #[.slice A n c] w (MsgOut w none) := by
  obtain ⟨pz, hpz0⟩ : ∃ pz, pz = 2 + m1 := ⟨_, rfl⟩
  have hpz : (pz : Int) = ((2 + m1 : Nat) : Int) := by omega
  have hpzI : (2 : Int) + (m1 : Int) = (pz : Int) := by omega
  have N0 := Lib.hid (fun (W : World) (hb : Below B w W) => num_v b n hn (1) 1 1 1 rfl rfl ((m1 : Int)) hm1 (by omega) (by omega) A c B w W hr hb (by omega))
  have N1 := Lib.hid (fun (W : World) (hb : Below B w W) => text_v b n hn 2 m1 2 (m1 : Int) rfl rfl nm hnm (by omega) (by omega) A c hc B w W hr hb (by omega))
  have N2 := Lib.hid (fun (W : World) (hb : Below B w W) => num_v b n hn (2 + m1) 8 (pz : Int) 8 hpz rfl (v2) hv2 (by omega) (by omega) A c B w W hr hb (by omega))
  have CP := Lib.hid (fun (W : World) => rpayload_any 1 nm ⟨#[]⟩ v2 0 0 0 W (Nat.le_trans hnb (by decide)) (by decide))
  rw [hq] at CP
  obtain ⟨a, rfl, _, hcell⟩ := hr.byte (k := 0) (show 0 < b.length by omega)
  rw [hk, Addr.add_zero'] at hcell
  have HB := Lib.hid (two_r w B hB)
  have HR := Lib.hid hr
  have HN := Lib.hid hn
  have t0 : True := trivial
  have t1 : True := trivial
  have t2 : True := trivial
  have h0n : ((n : Int) == 0) = false := by rw [beq_eq_false_iff_ne]; omega
  have h0I : (0 : Int) < (n : Int) := by omega
  have hblk := World.block_lt_of_cell? w a hcell
  have hdd := str_ne hd
  have hdd2 := str_ne (Ne.symm hd)
  clear hk hq hr hn hpz hpz0 hm1 hnm hv2
  go_enter Try.func64, Try.ntmps64
  have HBB := Lib.hid hB
  go_wp2_with (first
    | (go_at_call 63; have _t := t0; (refine (N0.out _ (HB.out _ _)).mono ?_); rintro e w1 ⟨rfl, rfl⟩; clear t0 _t)
    | (go_at_call 70; (refine (N1.out _ (HB.out _ _)).mono ?_); rintro e w1 ⟨rfl, rfl⟩)
    | (go_at_call 63; have _t := t2; (refine (N2.out _ (HB.out _ _)).mono ?_); rintro e w1 ⟨rfl, rfl⟩; clear t2 _t)
    | (go_at_call 60; (refine (CP.out _).mono ?_); rintro e w9 ⟨b9, A9, c9, rfl, h9⟩; obtain ⟨hz9, hm9, hbw⟩ := boxes_r b9; have m0x := cellAt hm9 (j := 0) rfl; have m1x := cellAt hm9 (j := 1) rfl; have m2x := cellAt hm9 (j := 2) rfl; have m3x := cellAt hm9 (j := 3) rfl; have m4x := cellAt hm9 (j := 4) rfl; have m5x := cellAt hm9 (j := 5) rfl; have m6x := cellAt hm9 (j := 6) rfl; have z0 := cellAt hz9 (j := 0) rfl; have f0 := frozenAt hz9 (j := 0); have z1 := cellAt hz9 (j := 1) rfl; have f1 := frozenAt hz9 (j := 1); have z2 := cellAt hz9 (j := 2) rfl; have f2 := frozenAt hz9 (j := 2); have z3 := cellAt hz9 (j := 3) rfl; have f3 := frozenAt hz9 (j := 3); have z4 := cellAt hz9 (j := 4) rfl; have f4 := frozenAt hz9 (j := 4); have z5 := cellAt hz9 (j := 5) rfl; have f5 := frozenAt hz9 (j := 5); have z6 := cellAt hz9 (j := 6) rfl; have f6 := frozenAt hz9 (j := 6); have cv1 := conv_any (HR.out.below (hbw.mono HBB.out)) n HN.out c; have cv2 := conv_any h9.rd _ rfl c9; clear b9 hz9 hm9)
    | fail)
  refine bodyPost_ret (v := .tuple #[zMsg, .bool false]) (by simp [results, Try.results64, go_sem, zMsg, z0, z1, z2, z3, z4, z5, z6]) rfl ⟨?_, rfl⟩
  exact ((((((hbw.setCell (p := ⟨w.heap.size, 0, none⟩) (Nat.le_refl _) _).setCell (p := ⟨w.heap.size, 1, none⟩) (Nat.le_refl _) _).setCell (p := ⟨w.heap.size, 2, none⟩) (Nat.le_refl _) _).setCell (p := ⟨w.heap.size, 3, none⟩) (Nat.le_refl _) _).setCell (p := ⟨w.heap.size, 4, none⟩) (Nat.le_refl _) _).setCell (p := ⟨w.heap.size, 5, none⟩) (Nat.le_refl _) _).setCell (p := ⟨w.heap.size, 6, none⟩) (Nat.le_refl _) _

set_option maxRecDepth 100000 in
set_option maxHeartbeats 2000000 in
theorem r_1_same (b : List UInt8) (n : Nat) (hn : n = b.length) (A : Option Addr) (c : Nat) (hc : n ≤ c) (B : Nat) (w : World) (hr : Rd w B A (bv b)) (hB : B ≤ w.heap.size) (hl : n ≤ 1048576) (h0 : 0 < n) (hk : ((b[0]'(by omega)).toNat : Int) = 1) (m1 : Nat) (hmb : m1 ≤ 255) (hm1 : (m1 : Int) = nul ((b.drop 1).take 1)) (nm : ByteArray) (hnm : nm = str ((b.drop 2).take m1)) (v2 : Int) (hv2 : v2 = nul ((b.drop (2 + m1)).take 8)) (hq : paySpec 1 nm ⟨#[]⟩ v2 0 0 0 = some b) (hnb : nm.size ≤ 1048576) :
    Calls Try.prog 64 #[.slice A n c] w (MsgOut w (some ⟨1, nm, v2, 0, 0, 0, ⟨#[]⟩⟩)) := by
  obtain ⟨pz, hpz0⟩ : ∃ pz, pz = 2 + m1 := ⟨_, rfl⟩
  have hpz : (pz : Int) = ((2 + m1 : Nat) : Int) := by omega
  have hpzI : (2 : Int) + (m1 : Int) = (pz : Int) := by omega
  have N0 := Lib.hid (fun (W : World) (hb : Below B w W) => num_v b n hn (1) 1 1 1 rfl rfl ((m1 : Int)) hm1 (by omega) (by omega) A c B w W hr hb (by omega))
  have N1 := Lib.hid (fun (W : World) (hb : Below B w W) => text_v b n hn 2 m1 2 (m1 : Int) rfl rfl nm hnm (by omega) (by omega) A c hc B w W hr hb (by omega))
  have N2 := Lib.hid (fun (W : World) (hb : Below B w W) => num_v b n hn (2 + m1) 8 (pz : Int) 8 hpz rfl (v2) hv2 (by omega) (by omega) A c B w W hr hb (by omega))
  have CP := Lib.hid (fun (W : World) => rpayload_any 1 nm ⟨#[]⟩ v2 0 0 0 W (Nat.le_trans hnb (by decide)) (by decide))
  rw [hq] at CP
  obtain ⟨a, rfl, _, hcell⟩ := hr.byte (k := 0) (show 0 < b.length by omega)
  rw [hk, Addr.add_zero'] at hcell
  have HB := Lib.hid (two_r w B hB)
  have HR := Lib.hid hr
  have HN := Lib.hid hn
  have t0 : True := trivial
  have t1 : True := trivial
  have t2 : True := trivial
  have h0n : ((n : Int) == 0) = false := by rw [beq_eq_false_iff_ne]; omega
  have h0I : (0 : Int) < (n : Int) := by omega
  have hblk := World.block_lt_of_cell? w a hcell
  clear hk hq hr hn hpz hpz0 hm1 hnm hv2
  go_enter Try.func64, Try.ntmps64
  have HBB := Lib.hid hB
  go_wp2_with (first
    | (go_at_call 63; have _t := t0; (refine (N0.out _ (HB.out _ _)).mono ?_); rintro e w1 ⟨rfl, rfl⟩; clear t0 _t)
    | (go_at_call 70; (refine (N1.out _ (HB.out _ _)).mono ?_); rintro e w1 ⟨rfl, rfl⟩)
    | (go_at_call 63; have _t := t2; (refine (N2.out _ (HB.out _ _)).mono ?_); rintro e w1 ⟨rfl, rfl⟩; clear t2 _t)
    | (go_at_call 60; (refine (CP.out _).mono ?_); rintro e w9 ⟨b9, A9, c9, rfl, h9⟩; obtain ⟨hz9, hm9, hbw⟩ := boxes_r b9; have m0x := cellAt hm9 (j := 0) rfl; have m1x := cellAt hm9 (j := 1) rfl; have m2x := cellAt hm9 (j := 2) rfl; have m3x := cellAt hm9 (j := 3) rfl; have m4x := cellAt hm9 (j := 4) rfl; have m5x := cellAt hm9 (j := 5) rfl; have m6x := cellAt hm9 (j := 6) rfl; have z0 := cellAt hz9 (j := 0) rfl; have f0 := frozenAt hz9 (j := 0); have z1 := cellAt hz9 (j := 1) rfl; have f1 := frozenAt hz9 (j := 1); have z2 := cellAt hz9 (j := 2) rfl; have f2 := frozenAt hz9 (j := 2); have z3 := cellAt hz9 (j := 3) rfl; have f3 := frozenAt hz9 (j := 3); have z4 := cellAt hz9 (j := 4) rfl; have f4 := frozenAt hz9 (j := 4); have z5 := cellAt hz9 (j := 5) rfl; have f5 := frozenAt hz9 (j := 5); have z6 := cellAt hz9 (j := 6) rfl; have f6 := frozenAt hz9 (j := 6); have cv1 := conv_any (HR.out.below (hbw.mono HBB.out)) n HN.out c; have cv2 := conv_any h9.rd _ rfl c9; clear b9 hz9 hm9)
    | fail)
  refine bodyPost_ret (v := .tuple #[msgV ⟨1, nm, v2, 0, 0, 0, ⟨#[]⟩⟩, .bool true]) (by simp [results, Try.results64, go_sem, msgV, z0, z1, z2, z3, z4, z5, z6]) rfl ⟨?_, rfl⟩
  exact ((((((hbw.setCell (p := ⟨w.heap.size, 0, none⟩) (Nat.le_refl _) _).setCell (p := ⟨w.heap.size, 1, none⟩) (Nat.le_refl _) _).setCell (p := ⟨w.heap.size, 2, none⟩) (Nat.le_refl _) _).setCell (p := ⟨w.heap.size, 3, none⟩) (Nat.le_refl _) _).setCell (p := ⟨w.heap.size, 4, none⟩) (Nat.le_refl _) _).setCell (p := ⟨w.heap.size, 5, none⟩) (Nat.le_refl _) _).setCell (p := ⟨w.heap.size, 6, none⟩) (Nat.le_refl _) _

set_option maxRecDepth 100000 in
set_option maxHeartbeats 2000000 in
theorem r_o_none (b : List UInt8) (n : Nat) (hn : n = b.length) (A : Option Addr) (c : Nat) (B : Nat) (w : World) (hr : Rd w B A (bv b)) (hB : B ≤ w.heap.size) (hl : n ≤ 1048576) (h0 : 0 < n) (kd : Int) (kk : (kd == 1) = false ∧ (kd == 2) = false ∧ (kd == 3) = false ∧ (kd == 4) = false ∧ (kd == 5) = false ∧ 0 ≤ kd ∧ kd ≤ 255) (hk : ((b[0]'(by omega)).toNat : Int) = kd) (hq : paySpec kd ⟨#[]⟩ ⟨#[]⟩ 0 0 0 0 = none) :
    Calls Try.prog 64 #[.slice A n c] w (MsgOut w none) := by
  obtain ⟨k1, k2, k3, k4, k5, k6, k7⟩ := kk
  have CP := Lib.hid (fun (W : World) => rpayload_any kd ⟨#[]⟩ ⟨#[]⟩ 0 0 0 0 W (by decide) (by decide))
  rw [hq] at CP
  obtain ⟨a, rfl, _, hcell⟩ := hr.byte (k := 0) (show 0 < b.length by omega)
  rw [hk, Addr.add_zero'] at hcell
  have HB := Lib.hid (two_r w B hB)
  have HR := Lib.hid hr
  have HN := Lib.hid hn
  have h0n : ((n : Int) == 0) = false := by rw [beq_eq_false_iff_ne]; omega
  have h0I : (0 : Int) < (n : Int) := by omega
  have hblk := World.block_lt_of_cell? w a hcell
  clear hk hq hr hn
  go_enter Try.func64, Try.ntmps64
  go_wp2_with (first
    | (go_at_call 60; (refine (CP.out _).mono ?_); rintro e w9 ⟨b9, v9, rfl⟩; obtain ⟨hz9, hm9, hbw⟩ := boxes_r b9; have m0x := cellAt hm9 (j := 0) rfl; have m1x := cellAt hm9 (j := 1) rfl; have m2x := cellAt hm9 (j := 2) rfl; have m3x := cellAt hm9 (j := 3) rfl; have m4x := cellAt hm9 (j := 4) rfl; have m5x := cellAt hm9 (j := 5) rfl; have m6x := cellAt hm9 (j := 6) rfl; have z0 := cellAt hz9 (j := 0) rfl; have f0 := frozenAt hz9 (j := 0); have z1 := cellAt hz9 (j := 1) rfl; have f1 := frozenAt hz9 (j := 1); have z2 := cellAt hz9 (j := 2) rfl; have f2 := frozenAt hz9 (j := 2); have z3 := cellAt hz9 (j := 3) rfl; have f3 := frozenAt hz9 (j := 3); have z4 := cellAt hz9 (j := 4) rfl; have f4 := frozenAt hz9 (j := 4); have z5 := cellAt hz9 (j := 5) rfl; have f5 := frozenAt hz9 (j := 5); have z6 := cellAt hz9 (j := 6) rfl; have f6 := frozenAt hz9 (j := 6); clear b9 hz9 hm9)
    | fail)
  refine bodyPost_ret (v := .tuple #[zMsg, .bool false]) (by simp [results, Try.results64, go_sem, zMsg, z0, z1, z2, z3, z4, z5, z6]) rfl ⟨?_, rfl⟩
  exact ((((((hbw.setCell (p := ⟨w.heap.size, 0, none⟩) (Nat.le_refl _) _).setCell (p := ⟨w.heap.size, 1, none⟩) (Nat.le_refl _) _).setCell (p := ⟨w.heap.size, 2, none⟩) (Nat.le_refl _) _).setCell (p := ⟨w.heap.size, 3, none⟩) (Nat.le_refl _) _).setCell (p := ⟨w.heap.size, 4, none⟩) (Nat.le_refl _) _).setCell (p := ⟨w.heap.size, 5, none⟩) (Nat.le_refl _) _).setCell (p := ⟨w.heap.size, 6, none⟩) (Nat.le_refl _) _

set_option maxRecDepth 100000 in
set_option maxHeartbeats 2000000 in
theorem r_e0 (A : Option Addr) (c : Nat) (w : World) : Calls Try.prog 64 #[.slice A 0 c] w (MsgOut w none) := by
  go_enter Try.func64, Try.ntmps64
  go_wp2
  refine bodyPost_ret (v := .tuple #[zMsg, .bool false]) (by simp [results, Try.results64, go_sem, zMsg]) rfl ⟨?_, rfl⟩
  exact (Below.refl _ w).alloc (Nat.le_refl _) _

theorem read_any (b : List UInt8) (n : Nat) (hn : n = b.length) (A : Option Addr) (c : Nat) (hc : n ≤ c) (B : Nat) (w : World) (hr : Rd w B A (bv b)) (hB : B ≤ w.heap.size) (hl : n ≤ 1048576) : Calls Try.prog 64 #[.slice A n c] w (MsgOut w (msgS b)) := by
  cases b with
  | nil =>
    have : msgS [] = none := by unfold msgS; rw [if_neg (fun h => h.1 rfl)]
    rw [this]
    subst hn
    exact r_e0 A c w
  | cons x t =>
    have h0 : 0 < n := by rw [hn]; simp
    have hk0 : ∀ k : Nat, x.toNat = k → ((((x :: t)[0]'(by simp)).toNat : Int)) = (k : Int) := fun k h => by rw [← h]; rfl
    have key : ∀ (p : Option (List UInt8)) (m : Msg), refMsg (x :: t) = m → payM m = p → (p = none → msgS (x :: t) = none) ∧ (∀ q, p = some q → q ≠ x :: t → msgS (x :: t) = none) ∧ (p = some (x :: t) → msgS (x :: t) = some m) := by
      intro p m hm hp
      refine ⟨fun h => msgS_none (by rw [hm, hp, h]; intro e; cases e), fun q h hq => msgS_none (by rw [hm, hp, h]; intro e; injection e with e; exact hq e), fun h => msgS_some (by simp) hm (by rw [hp, h])⟩
    by_cases h1 : x.toNat = 1
    · obtain ⟨s1, s2, s3⟩ := nul_small (l := t.take 1) (Nat.le_trans (take_le _ _) (by omega))
      have hmb : be (t.take 1) ≤ 255 := by
        have h1 := be_lt _ (t.take 1) rfl
        have h2 := Nat.pow_le_pow_right (show 0 < 256 by omega) (take_le t 1)
        have h3 : (256 : Nat) ^ 1 = 256 := rfl
        omega
      have hsz : (str ((t.drop 1).take (be (t.take 1)))).size ≤ 1048576 := by rw [str_size, List.length_take]; omega
      have hv2 : nul ((t.drop (1 + be (t.take 1))).take 8) = nul (((x :: t).drop (2 + be (t.take 1))).take 8) := by
        rw [show 2 + be (t.take 1) = (1 + be (t.take 1)) + 1 by omega]
        rfl
      obtain ⟨k1, k2, k3⟩ := key _ _ (ref1 h1) rfl
      simp only [payM] at k1 k2 k3
      cases hq : paySpec 1 (str ((t.drop 1).take (be (t.take 1)))) ⟨#[]⟩ (nul ((t.drop (1 + be (t.take 1))).take 8)) 0 0 0 with
      | none => rw [k1 hq]; exact r_1_none _ n hn A c hc B w hr hB hl h0 (hk0 1 h1) _ hmb s1.symm _ rfl _ hv2 hq hsz
      | some q =>
        by_cases hd : q = x :: t
        · subst hd; rw [k3 hq]; exact r_1_same _ n hn A c hc B w hr hB hl h0 (hk0 1 h1) _ hmb s1.symm _ rfl _ hv2 hq hsz
        · rw [k2 q hq hd]; exact r_1_diff _ n hn A c hc B w hr hB hl h0 (hk0 1 h1) _ hmb s1.symm _ rfl _ hv2 q hq hd hsz
    by_cases h2 : x.toNat = 2
    · have hsz : (str ((t.drop 28).take 1048576)).size ≤ 1048576 := by rw [str_size, List.length_take]; omega
      obtain ⟨k1, k2, k3⟩ := key _ _ (ref2 h2) rfl
      simp only [payM] at k1 k2 k3
      cases hq : paySpec 2 ⟨#[]⟩ (str ((t.drop 28).take 1048576)) (nul ((t.drop 16).take 8)) (nul ((t.drop 8).take 8)) (nul (t.take 8)) 0 with
      | none => rw [k1 hq]; exact r_2_none _ n hn A c hc B w hr hB hl h0 (hk0 2 h2) _ rfl _ rfl _ rfl _ rfl hq hsz
      | some q =>
        by_cases hd : q = x :: t
        · subst hd; rw [k3 hq]; exact r_2_same _ n hn A c hc B w hr hB hl h0 (hk0 2 h2) _ rfl _ rfl _ rfl _ rfl hq hsz
        · rw [k2 q hq hd]; exact r_2_diff _ n hn A c hc B w hr hB hl h0 (hk0 2 h2) _ rfl _ rfl _ rfl _ rfl q hq hd hsz
    by_cases h3 : x.toNat = 3
    · obtain ⟨k1, k2, k3⟩ := key _ _ (ref3 h3) rfl
      simp only [payM] at k1 k2 k3
      cases hq : paySpec 3 ⟨#[]⟩ ⟨#[]⟩ (nul ((t.drop 8).take 8)) 0 (nul (t.take 8)) 0 with
      | none => rw [k1 hq]; exact r_3_none _ n hn A c B w hr hB hl h0 (hk0 3 h3) _ rfl _ rfl hq
      | some q =>
        by_cases hd : q = x :: t
        · subst hd; rw [k3 hq]; exact r_3_same _ n hn A c B w hr hB hl h0 (hk0 3 h3) _ rfl _ rfl hq
        · rw [k2 q hq hd]; exact r_3_diff _ n hn A c B w hr hB hl h0 (hk0 3 h3) _ rfl _ rfl q hq hd
    by_cases h4 : x.toNat = 4
    · obtain ⟨k1, k2, k3⟩ := key _ _ (ref4 h4) rfl
      simp only [payM] at k1 k2 k3
      cases hq : paySpec 4 ⟨#[]⟩ ⟨#[]⟩ (nul ((t.drop 8).take 8)) 0 (nul (t.take 8)) (nul ((t.drop 16).take 2)) with
      | none => rw [k1 hq]; exact r_4_none _ n hn A c B w hr hB hl h0 (hk0 4 h4) _ rfl _ rfl _ rfl hq
      | some q =>
        by_cases hd : q = x :: t
        · subst hd; rw [k3 hq]; exact r_4_same _ n hn A c B w hr hB hl h0 (hk0 4 h4) _ rfl _ rfl _ rfl hq
        · rw [k2 q hq hd]; exact r_4_diff _ n hn A c B w hr hB hl h0 (hk0 4 h4) _ rfl _ rfl _ rfl q hq hd
    by_cases h5 : x.toNat = 5
    · obtain ⟨k1, k2, k3⟩ := key _ _ (ref5 h5) rfl
      simp only [payM] at k1 k2 k3
      cases hq : paySpec 5 ⟨#[]⟩ ⟨#[]⟩ 0 0 (nul (t.take 8)) 0 with
      | none => rw [k1 hq]; exact r_5_none _ n hn A c B w hr hB hl h0 (hk0 5 h5) _ rfl hq
      | some q =>
        by_cases hd : q = x :: t
        · subst hd; rw [k3 hq]; exact r_5_same _ n hn A c B w hr hB hl h0 (hk0 5 h5) _ rfl hq
        · rw [k2 q hq hd]; exact r_5_diff _ n hn A c B w hr hB hl h0 (hk0 5 h5) _ rfl q hq hd
    have hX : paySpec (x.toNat : Int) ⟨#[]⟩ ⟨#[]⟩ 0 0 0 0 = none := payo (by omega) (by omega) (by omega) (by omega) (by omega)
    obtain ⟨k1, _, _⟩ := key _ _ (refo h1 h2 h3 h4 h5) rfl
    simp only [payM] at k1
    rw [k1 hX]
    have kk : ((x.toNat : Int) == 1) = false ∧ ((x.toNat : Int) == 2) = false ∧ ((x.toNat : Int) == 3) = false ∧ ((x.toNat : Int) == 4) = false ∧ ((x.toNat : Int) == 5) = false ∧ 0 ≤ (x.toNat : Int) ∧ (x.toNat : Int) ≤ 255 := by
      have hb := x.toNat_lt
      refine ⟨?_, ?_, ?_, ?_, ?_, by omega, by omega⟩
      all_goals
        rw [beq_eq_false_iff_ne]
        omega
    exact r_o_none _ n hn A c B w hr hB hl h0 _ kk rfl hX

end Go.Proofs.Ytbhjcfhpabnadaa
