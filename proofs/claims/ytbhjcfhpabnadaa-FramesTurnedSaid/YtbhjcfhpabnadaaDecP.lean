/-
  The walks of both Decodes of layer 19, and of turnpikelaw19's lent and kept.
-/
import Derived.Test.YtbhjcfhpabnadaaReadP
namespace Go.Proofs.Ytbhjcfhpabnadaa
open Go.RowKit

attribute [local go_sem] drewN_setCell drewN_alloc World.drewN_drewN

/-- What stands at the beginning of some bytes: a message, how long its frame is, an errno. -/
noncomputable def decT (b : List UInt8) : Option Msg × Int × Int :=
  if b.length < 4 then (none, 0, 10)
  else if 131072 < be (b.take 4) then (none, 0, 190)
  else if b.length < be (b.take 4) + 8 then (none, 0, 10)
  else match nextS (b.take (be (b.take 4) + 8)) with
    | none => (none, 0, 190)
    | some p => match msgS p with
      | none => (none, 0, 190)
      | some m => (some m, ((8 + p.length : Nat) : Int), 0)
def outV (o : Option Msg) : Value := match o with | some m => msgV m | none => zMsg
/-- What Decode leaves. -/
def DecO (w : World) (t : Option Msg × Int × Int) (e : Ending) (w' : World) : Prop :=
  Below w.heap.size w w' ∧ e = .returned (.tuple #[outV t.1, .int .i64 t.2.1, .int .i64 t.2.2])

theorem own_capN {w : World} {base n c : Nat} {A : Option Addr} {l : List Value} (h : Own w base 5 1 A n c l) : A = none → c = 0 := by
  rcases h.form with ⟨_, _, h0⟩ | ⟨_, h0, _⟩
  · exact fun _ => h0
  · exact fun h => by rw [h0] at h; cases h
theorem box1_at {w w9 : World} {t : TypeId} {Z : Array Value} {k : Nat} (h : Below ((w.alloc (.cells Z t)).drewN k).heap.size ((w.alloc (.cells Z t)).drewN k) w9) :
    w9.heap[w.heap.size]? = some (.cells Z t (0, 0)) ∧ Below w.heap.size w w9 ∧ w.heap.size + 1 ≤ w9.heap.size := by
  have hs : ((w.alloc (.cells Z t)).drewN k).heap.size = w.heap.size + 1 := by
    show (w.alloc (.cells Z t)).heap.size = _
    simp
  have hsz := h.size
  rw [hs] at h hsz
  exact ⟨(h.block _ (by omega)).trans (new_at w _), (below_drewN ((Below.refl _ w).alloc (Nat.le_refl _) _) k).trans (h.mono (by omega)), hsz⟩
theorem box7 {w6 : World} {B : Nat} (o : Obj) {u0 u1 u2 u3 u4 u5 u6 : Value} (v0 v1 v2 v3 v4 v5 v6 : Value) (h0 : w6.cell? ⟨B, 0, none⟩ = some u0) (h1 : w6.cell? ⟨B, 1, none⟩ = some u1) (h2 : w6.cell? ⟨B, 2, none⟩ = some u2) (h3 : w6.cell? ⟨B, 3, none⟩ = some u3) (h4 : w6.cell? ⟨B, 4, none⟩ = some u4) (h5 : w6.cell? ⟨B, 5, none⟩ = some u5) (h6 : w6.cell? ⟨B, 6, none⟩ = some u6) :
    ((((((((w6.setCell ⟨B, 0, none⟩ v0).setCell ⟨B, 1, none⟩ v1).setCell ⟨B, 2, none⟩ v2).setCell ⟨B, 3, none⟩ v3).setCell ⟨B, 4, none⟩ v4).setCell ⟨B, 5, none⟩ v5).setCell ⟨B, 6, none⟩ v6).alloc o).cell? ⟨B, 0, none⟩ = some v0 ∧ ((((((((w6.setCell ⟨B, 0, none⟩ v0).setCell ⟨B, 1, none⟩ v1).setCell ⟨B, 2, none⟩ v2).setCell ⟨B, 3, none⟩ v3).setCell ⟨B, 4, none⟩ v4).setCell ⟨B, 5, none⟩ v5).setCell ⟨B, 6, none⟩ v6).alloc o).cell? ⟨B, 1, none⟩ = some v1 ∧ ((((((((w6.setCell ⟨B, 0, none⟩ v0).setCell ⟨B, 1, none⟩ v1).setCell ⟨B, 2, none⟩ v2).setCell ⟨B, 3, none⟩ v3).setCell ⟨B, 4, none⟩ v4).setCell ⟨B, 5, none⟩ v5).setCell ⟨B, 6, none⟩ v6).alloc o).cell? ⟨B, 2, none⟩ = some v2 ∧ ((((((((w6.setCell ⟨B, 0, none⟩ v0).setCell ⟨B, 1, none⟩ v1).setCell ⟨B, 2, none⟩ v2).setCell ⟨B, 3, none⟩ v3).setCell ⟨B, 4, none⟩ v4).setCell ⟨B, 5, none⟩ v5).setCell ⟨B, 6, none⟩ v6).alloc o).cell? ⟨B, 3, none⟩ = some v3 ∧ ((((((((w6.setCell ⟨B, 0, none⟩ v0).setCell ⟨B, 1, none⟩ v1).setCell ⟨B, 2, none⟩ v2).setCell ⟨B, 3, none⟩ v3).setCell ⟨B, 4, none⟩ v4).setCell ⟨B, 5, none⟩ v5).setCell ⟨B, 6, none⟩ v6).alloc o).cell? ⟨B, 4, none⟩ = some v4 ∧ ((((((((w6.setCell ⟨B, 0, none⟩ v0).setCell ⟨B, 1, none⟩ v1).setCell ⟨B, 2, none⟩ v2).setCell ⟨B, 3, none⟩ v3).setCell ⟨B, 4, none⟩ v4).setCell ⟨B, 5, none⟩ v5).setCell ⟨B, 6, none⟩ v6).alloc o).cell? ⟨B, 5, none⟩ = some v5 ∧ ((((((((w6.setCell ⟨B, 0, none⟩ v0).setCell ⟨B, 1, none⟩ v1).setCell ⟨B, 2, none⟩ v2).setCell ⟨B, 3, none⟩ v3).setCell ⟨B, 4, none⟩ v4).setCell ⟨B, 5, none⟩ v5).setCell ⟨B, 6, none⟩ v6).alloc o).cell? ⟨B, 6, none⟩ = some v6 := by
  refine ⟨?_, ?_, ?_, ?_, ?_, ?_, ?_⟩
  all_goals
    rw [World.cell?_alloc_some]
    · simp [go_sem, h0, h1, h2, h3, h4, h5, h6]
    · simp [go_sem, h0, h1, h2, h3, h4, h5, h6]
theorem one_box (w : World) (B : Nat) (hB : B ≤ w.heap.size) (o : Obj) (k : Nat) : Below B w ((w.alloc o).drewN k) := below_drewN ((Below.refl B w).alloc hB o) k

set_option maxRecDepth 100000 in
set_option maxHeartbeats 2000000 in
theorem dp_short (b : List UInt8) (n : Nat) (hn : n = b.length) (A : Option Addr) (c : Nat) (hc : n ≤ c) (w : World) (hr : Rd w w.heap.size A (bv b)) (hl : n ≤ 140737756790784) (hs : b.length < 4) :
    Calls Try.prog 37 #[.slice A n c] w (DecO w (none, 0, 10)) := by
  have C0 := Lib.hid (fun (W : World) (hb : Below w.heap.size w W) => cut_noB b n hn 4 4 rfl (by omega) (by omega) A c hc w.heap.size w W hr hb (by omega))
  have hsI : (n : Int) < 4 := by omega
  have HB := Lib.hid (one_box w w.heap.size (Nat.le_refl _))
  clear hn hr
  go_enter Try.func37, Try.ntmps37
  go_wp2_with (first
    | (go_at_call 61; (refine (C0.out _ (HB.out _ 0)).mono ?_); rintro e w1 ⟨k1, rfl, rfl⟩)
    | fail)
  refine bodyPost_ret (v := .tuple #[zMsg, .int .i64 0, .int .i64 10]) (by simp [results, Try.results37, go_sem, zMsg]) rfl ⟨?_, rfl⟩
  exact HB.out _ _

set_option maxRecDepth 100000 in
set_option maxHeartbeats 2000000 in
theorem dp_big (b : List UInt8) (n : Nat) (hn : n = b.length) (A : Option Addr) (c : Nat) (hA : A = none → c = 0) (hc : n ≤ c) (w : World) (hr : Rd w w.heap.size A (bv b)) (hl : n ≤ 140737756790784) (hs : 4 ≤ b.length) (hbig : 131072 < be (b.take 4)) :
    Calls Try.prog 37 #[.slice A n c] w (DecO w (none, 0, 190)) := by
  obtain ⟨N, hNe⟩ : ∃ N, N = be (b.take 4) := ⟨_, rfl⟩
  have hV : (N : Int) = IntKind.i64.wrap (be (b.take 4)) := by rw [hNe]; exact (nul_small (take_le b 4)).2.1.symm
  have C0 := Lib.hid (fun (W : World) (hb : Below w.heap.size w W) => cut_okB b n hn 4 4 rfl (by omega) (n - 4) (by omega) (N : Int) hV A c hA hc w.heap.size w W hr hb (by omega))
  rw [← hNe] at hbig
  have hsI : ¬ (n : Int) < 4 := by omega
  have hb1 : (131072 : Int) < (N : Int) := by omega
  have HB := Lib.hid (one_box w w.heap.size (Nat.le_refl _))
  clear hn hNe hV hr
  go_enter Try.func37, Try.ntmps37
  go_wp2_with (first
    | (go_at_call 61; (refine (C0.out _ (HB.out _ 0)).mono ?_); rintro e w1 ⟨k1, S1, c1, rfl, rfl, r1, n1, m1⟩)
    | fail)
  refine bodyPost_ret (v := .tuple #[zMsg, .int .i64 0, .int .i64 190]) (by simp [results, Try.results37, go_sem, zMsg]) rfl ⟨?_, rfl⟩
  exact HB.out _ _

set_option maxRecDepth 100000 in
set_option maxHeartbeats 2000000 in
theorem dp_part (b : List UInt8) (n : Nat) (hn : n = b.length) (A : Option Addr) (c : Nat) (hA : A = none → c = 0) (hc : n ≤ c) (w : World) (hr : Rd w w.heap.size A (bv b)) (hl : n ≤ 140737756790784) (hs : 4 ≤ b.length) (hN : be (b.take 4) ≤ 131072) (hp : b.length < be (b.take 4) + 8) :
    Calls Try.prog 37 #[.slice A n c] w (DecO w (none, 0, 10)) := by
  obtain ⟨N, hNe⟩ : ∃ N, N = be (b.take 4) := ⟨_, rfl⟩
  have hV : (N : Int) = IntKind.i64.wrap (be (b.take 4)) := by rw [hNe]; exact (nul_small (take_le b 4)).2.1.symm
  have C0 := Lib.hid (fun (W : World) (hb : Below w.heap.size w W) => cut_okB b n hn 4 4 rfl (by omega) (n - 4) (by omega) (N : Int) hV A c hA hc w.heap.size w W hr hb (by omega))
  rw [← hNe] at hN hp
  have hsI : ¬ (n : Int) < 4 := by omega
  have hb1 : ¬ (131072 : Int) < (N : Int) := by omega
  have hp1 : (n : Int) < (N : Int) + 8 := by omega
  have hp2 : (n : Int) < 8 + (N : Int) := by omega
  have HB := Lib.hid (one_box w w.heap.size (Nat.le_refl _))
  clear hn hNe hV hr
  go_enter Try.func37, Try.ntmps37
  go_wp2_with (first
    | (go_at_call 61; (refine (C0.out _ (HB.out _ 0)).mono ?_); rintro e w1 ⟨k1, S1, c1, rfl, rfl, r1, n1, m1⟩)
    | fail)
  refine bodyPost_ret (v := .tuple #[zMsg, .int .i64 0, .int .i64 10]) (by simp [results, Try.results37, go_sem, zMsg]) rfl ⟨?_, rfl⟩
  exact HB.out _ _

set_option maxRecDepth 100000 in
set_option maxHeartbeats 2000000 in
theorem dp_nonext (b : List UInt8) (n : Nat) (hn : n = b.length) (A : Option Addr) (c : Nat) (hA : A = none → c = 0) (hc : n ≤ c) (w : World) (hr : Rd w w.heap.size A (bv b)) (hl : n ≤ 140737756790784) (hs : 4 ≤ b.length) (hN : be (b.take 4) ≤ 131072) (hp : be (b.take 4) + 8 ≤ b.length) (hx : nextS (b.take (be (b.take 4) + 8)) = none) :
    Calls Try.prog 37 #[.slice A n c] w (DecO w (none, 0, 190)) := by
  obtain ⟨N, hNe⟩ : ∃ N, N = be (b.take 4) := ⟨_, rfl⟩
  have hV : (N : Int) = IntKind.i64.wrap (be (b.take 4)) := by rw [hNe]; exact (nul_small (take_le b 4)).2.1.symm
  have C0 := Lib.hid (fun (W : World) (hb : Below w.heap.size w W) => cut_okB b n hn 4 4 rfl (by omega) (n - 4) (by omega) (N : Int) hV A c hA hc w.heap.size w W hr hb (by omega))
  rw [← hNe] at hN hp hx
  have hsI : ¬ (n : Int) < 4 := by omega
  have hb1 : ¬ (131072 : Int) < (N : Int) := by omega
  have hp1 : ¬ (n : Int) < (N : Int) + 8 := by omega
  have hp2 : ¬ (n : Int) < 8 + (N : Int) := by omega
  obtain ⟨M, hM⟩ : ∃ M, M = N + 8 := ⟨_, rfl⟩
  have hM1 : (N : Int) + 8 = (M : Int) := by omega
  have hM2 : (8 : Int) + (N : Int) = (M : Int) := by omega
  have hM3 : (M : Int) ≤ (c : Int) := by omega
  have hM4 : (0 : Int) ≤ (M : Int) := Int.natCast_nonneg _
  rw [← hM] at hx
  have hrt : Rd w w.heap.size A (bv (b.take M)) := by have := hr.take M; simpa [bv, List.map_take] using this
  have hMl : M = (b.take M).length := by rw [List.length_take]; omega
  have NX := Lib.hid (fun (W : World) (hb : Below w.heap.size w W) => pnext_any (b.take M) M hMl A c w.heap.size W (hrt.below hb) hb.size (by omega) (by rw [← hMl]; omega))
  have hx0 := hx
  rw [hx] at NX
  have HB := Lib.hid (one_box w w.heap.size (Nat.le_refl _))
  clear hn hNe hV hM hx hx0 hrt hMl hr
  go_enter Try.func37, Try.ntmps37
  go_wp2_with (first
    | (go_at_call 61; (refine (C0.out _ (HB.out _ 0)).mono ?_); rintro e w1 ⟨k1, S1, c1, rfl, rfl, r1, n1, m1⟩)
    | (go_at_call 18; (refine (NX.out _ (HB.out _ _)).mono ?_); rintro e w5 ⟨b5, rfl⟩; obtain ⟨hz9, hbw, hs5⟩ := box1_at b5; have z0 := cellAt hz9 (j := 0) rfl; have f0 := frozenAt hz9 (j := 0); have z1 := cellAt hz9 (j := 1) rfl; have f1 := frozenAt hz9 (j := 1); have z2 := cellAt hz9 (j := 2) rfl; have f2 := frozenAt hz9 (j := 2); have z3 := cellAt hz9 (j := 3) rfl; have f3 := frozenAt hz9 (j := 3); have z4 := cellAt hz9 (j := 4) rfl; have f4 := frozenAt hz9 (j := 4); have z5 := cellAt hz9 (j := 5) rfl; have f5 := frozenAt hz9 (j := 5); have z6 := cellAt hz9 (j := 6) rfl; have f6 := frozenAt hz9 (j := 6); clear b5 hz9)
    | fail)
  refine bodyPost_ret (v := .tuple #[zMsg, .int .i64 0, .int .i64 190]) (by simp [results, Try.results37, go_sem, zMsg, z0, z1, z2, z3, z4, z5, z6]) rfl ⟨?_, rfl⟩
  exact ((((((hbw.setCell (p := ⟨w.heap.size, 0, none⟩) (Nat.le_refl _) _).setCell (p := ⟨w.heap.size, 1, none⟩) (Nat.le_refl _) _).setCell (p := ⟨w.heap.size, 2, none⟩) (Nat.le_refl _) _).setCell (p := ⟨w.heap.size, 3, none⟩) (Nat.le_refl _) _).setCell (p := ⟨w.heap.size, 4, none⟩) (Nat.le_refl _) _).setCell (p := ⟨w.heap.size, 5, none⟩) (Nat.le_refl _) _).setCell (p := ⟨w.heap.size, 6, none⟩) (Nat.le_refl _) _

set_option maxRecDepth 100000 in
set_option maxHeartbeats 2000000 in
theorem dp_nomsg (b : List UInt8) (n : Nat) (hn : n = b.length) (A : Option Addr) (c : Nat) (hA : A = none → c = 0) (hc : n ≤ c) (w : World) (hr : Rd w w.heap.size A (bv b)) (hl : n ≤ 140737756790784) (hs : 4 ≤ b.length) (hN : be (b.take 4) ≤ 131072) (hp : be (b.take 4) + 8 ≤ b.length) (p : List UInt8) (hx : nextS (b.take (be (b.take 4) + 8)) = some p) (hm : msgS p = none) :
    Calls Try.prog 37 #[.slice A n c] w (DecO w (none, 0, 190)) := by
  obtain ⟨N, hNe⟩ : ∃ N, N = be (b.take 4) := ⟨_, rfl⟩
  have hV : (N : Int) = IntKind.i64.wrap (be (b.take 4)) := by rw [hNe]; exact (nul_small (take_le b 4)).2.1.symm
  have C0 := Lib.hid (fun (W : World) (hb : Below w.heap.size w W) => cut_okB b n hn 4 4 rfl (by omega) (n - 4) (by omega) (N : Int) hV A c hA hc w.heap.size w W hr hb (by omega))
  rw [← hNe] at hN hp hx
  have hsI : ¬ (n : Int) < 4 := by omega
  have hb1 : ¬ (131072 : Int) < (N : Int) := by omega
  have hp1 : ¬ (n : Int) < (N : Int) + 8 := by omega
  have hp2 : ¬ (n : Int) < 8 + (N : Int) := by omega
  obtain ⟨M, hM⟩ : ∃ M, M = N + 8 := ⟨_, rfl⟩
  have hM1 : (N : Int) + 8 = (M : Int) := by omega
  have hM2 : (8 : Int) + (N : Int) = (M : Int) := by omega
  have hM3 : (M : Int) ≤ (c : Int) := by omega
  have hM4 : (0 : Int) ≤ (M : Int) := Int.natCast_nonneg _
  rw [← hM] at hx
  have hrt : Rd w w.heap.size A (bv (b.take M)) := by have := hr.take M; simpa [bv, List.map_take] using this
  have hMl : M = (b.take M).length := by rw [List.length_take]; omega
  have NX := Lib.hid (fun (W : World) (hb : Below w.heap.size w W) => pnext_any (b.take M) M hMl A c w.heap.size W (hrt.below hb) hb.size (by omega) (by rw [← hMl]; omega))
  have hx0 := hx
  rw [hx] at NX

  have hpl : p.length ≤ 131072 := (nextS_len hx0).1
  have HM := Lib.hid hm
  clear hm
  have HB := Lib.hid (one_box w w.heap.size (Nat.le_refl _))
  clear hn hNe hV hM hx hx0 hrt hMl hr
  go_enter Try.func37, Try.ntmps37
  go_wp2_with (first
    | (go_at_call 61; (refine (C0.out _ (HB.out _ 0)).mono ?_); rintro e w1 ⟨k1, S1, c1, rfl, rfl, r1, n1, m1⟩)
    | (go_at_call 18; (refine (NX.out _ (HB.out _ _)).mono ?_); rintro e w5 ⟨b5, A5, c5, rfl, h5⟩; obtain ⟨hz5, hb5, hs5⟩ := box1_at b5; clear b5)
    | (go_at_call 62; (refine (message_any p.length A5 c5 w5.heap.size w5 p rfl (own_capN h5) (own_cap h5) h5.rd (Nat.le_refl _) (by omega)).mono ?_); rw [HM.out]; rintro e w6 ⟨b6, rfl⟩; try unfold zMsg; have hz9 := (b6.block w.heap.size (by omega)).trans hz5; have hbw := hb5.trans (b6.mono hb5.size); have hlt6 : w.heap.size < w6.heap.size := (by have := b6.size; omega); have hne6 : ¬ w6.heap.size = w.heap.size := (by omega); have hne7 : ¬ w.heap.size = w6.heap.size := (by omega); have z0 := cellAt hz9 (j := 0) rfl; have f0 := frozenAt hz9 (j := 0); have z1 := cellAt hz9 (j := 1) rfl; have f1 := frozenAt hz9 (j := 1); have z2 := cellAt hz9 (j := 2) rfl; have f2 := frozenAt hz9 (j := 2); have z3 := cellAt hz9 (j := 3) rfl; have f3 := frozenAt hz9 (j := 3); have z4 := cellAt hz9 (j := 4) rfl; have f4 := frozenAt hz9 (j := 4); have z5 := cellAt hz9 (j := 5) rfl; have f5 := frozenAt hz9 (j := 5); have z6 := cellAt hz9 (j := 6) rfl; have f6 := frozenAt hz9 (j := 6); clear b6 hz9 hz5)
    | fail)
  obtain ⟨y0, y1, y2, y3, y4, y5, y6⟩ := box7 (.cells #[.int .i64 0, .string ⟨#[]⟩, .int .i64 0, .int .i64 0, .int .i64 0, .int .i64 0, .string ⟨#[]⟩] 60) (.int .i64 0) (.string ⟨#[]⟩) (.int .i64 0) (.int .i64 0) (.int .i64 0) (.int .i64 0) (.string ⟨#[]⟩) z0 z1 z2 z3 z4 z5 z6
  refine bodyPost_ret (v := .tuple #[zMsg, .int .i64 0, .int .i64 190]) (by simp [results, Try.results37, go_sem, zMsg, y0, y1, y2, y3, y4, y5, y6]) rfl ⟨?_, rfl⟩
  exact (((((((hbw.setCell (p := ⟨w.heap.size, 0, none⟩) (Nat.le_refl _) _).setCell (p := ⟨w.heap.size, 1, none⟩) (Nat.le_refl _) _).setCell (p := ⟨w.heap.size, 2, none⟩) (Nat.le_refl _) _).setCell (p := ⟨w.heap.size, 3, none⟩) (Nat.le_refl _) _).setCell (p := ⟨w.heap.size, 4, none⟩) (Nat.le_refl _) _).setCell (p := ⟨w.heap.size, 5, none⟩) (Nat.le_refl _) _).setCell (p := ⟨w.heap.size, 6, none⟩) (Nat.le_refl _) _).alloc (by simpa [go_sem] using hbw.size) _

set_option maxRecDepth 100000 in
set_option maxHeartbeats 2000000 in
theorem dp_good (b : List UInt8) (n : Nat) (hn : n = b.length) (A : Option Addr) (c : Nat) (hA : A = none → c = 0) (hc : n ≤ c) (w : World) (hr : Rd w w.heap.size A (bv b)) (hl : n ≤ 140737756790784) (hs : 4 ≤ b.length) (hN : be (b.take 4) ≤ 131072) (hp : be (b.take 4) + 8 ≤ b.length) (p : List UInt8) (hx : nextS (b.take (be (b.take 4) + 8)) = some p) (m : Msg) (hm : msgS p = some m) :
    Calls Try.prog 37 #[.slice A n c] w (DecO w (some m, ((8 + p.length : Nat) : Int), 0)) := by
  obtain ⟨N, hNe⟩ : ∃ N, N = be (b.take 4) := ⟨_, rfl⟩
  have hV : (N : Int) = IntKind.i64.wrap (be (b.take 4)) := by rw [hNe]; exact (nul_small (take_le b 4)).2.1.symm
  have C0 := Lib.hid (fun (W : World) (hb : Below w.heap.size w W) => cut_okB b n hn 4 4 rfl (by omega) (n - 4) (by omega) (N : Int) hV A c hA hc w.heap.size w W hr hb (by omega))
  rw [← hNe] at hN hp hx
  have hsI : ¬ (n : Int) < 4 := by omega
  have hb1 : ¬ (131072 : Int) < (N : Int) := by omega
  have hp1 : ¬ (n : Int) < (N : Int) + 8 := by omega
  have hp2 : ¬ (n : Int) < 8 + (N : Int) := by omega
  obtain ⟨M, hM⟩ : ∃ M, M = N + 8 := ⟨_, rfl⟩
  have hM1 : (N : Int) + 8 = (M : Int) := by omega
  have hM2 : (8 : Int) + (N : Int) = (M : Int) := by omega
  have hM3 : (M : Int) ≤ (c : Int) := by omega
  have hM4 : (0 : Int) ≤ (M : Int) := Int.natCast_nonneg _
  rw [← hM] at hx
  have hrt : Rd w w.heap.size A (bv (b.take M)) := by have := hr.take M; simpa [bv, List.map_take] using this
  have hMl : M = (b.take M).length := by rw [List.length_take]; omega
  have NX := Lib.hid (fun (W : World) (hb : Below w.heap.size w W) => pnext_any (b.take M) M hMl A c w.heap.size W (hrt.below hb) hb.size (by omega) (by rw [← hMl]; omega))
  have hx0 := hx
  rw [hx] at NX

  have hpl : p.length ≤ 131072 := (nextS_len hx0).1
  have HM := Lib.hid hm
  clear hm
  have HB := Lib.hid (one_box w w.heap.size (Nat.le_refl _))
  clear hn hNe hV hM hx hx0 hrt hMl hr
  go_enter Try.func37, Try.ntmps37
  go_wp2_with (first
    | (go_at_call 61; (refine (C0.out _ (HB.out _ 0)).mono ?_); rintro e w1 ⟨k1, S1, c1, rfl, rfl, r1, n1, m1⟩)
    | (go_at_call 18; (refine (NX.out _ (HB.out _ _)).mono ?_); rintro e w5 ⟨b5, A5, c5, rfl, h5⟩; obtain ⟨hz5, hb5, hs5⟩ := box1_at b5; clear b5)
    | (go_at_call 62; (refine (message_any p.length A5 c5 w5.heap.size w5 p rfl (own_capN h5) (own_cap h5) h5.rd (Nat.le_refl _) (by omega)).mono ?_); rw [HM.out]; rintro e w6 ⟨b6, rfl⟩; try unfold msgV; have hz9 := (b6.block w.heap.size (by omega)).trans hz5; have hbw := hb5.trans (b6.mono hb5.size); have hlt6 : w.heap.size < w6.heap.size := (by have := b6.size; omega); have hne6 : ¬ w6.heap.size = w.heap.size := (by omega); have hne7 : ¬ w.heap.size = w6.heap.size := (by omega); have z0 := cellAt hz9 (j := 0) rfl; have f0 := frozenAt hz9 (j := 0); have z1 := cellAt hz9 (j := 1) rfl; have f1 := frozenAt hz9 (j := 1); have z2 := cellAt hz9 (j := 2) rfl; have f2 := frozenAt hz9 (j := 2); have z3 := cellAt hz9 (j := 3) rfl; have f3 := frozenAt hz9 (j := 3); have z4 := cellAt hz9 (j := 4) rfl; have f4 := frozenAt hz9 (j := 4); have z5 := cellAt hz9 (j := 5) rfl; have f5 := frozenAt hz9 (j := 5); have z6 := cellAt hz9 (j := 6) rfl; have f6 := frozenAt hz9 (j := 6); clear b6 hz9 hz5)
    | fail)
  obtain ⟨y0, y1, y2, y3, y4, y5, y6⟩ := box7 (.cells #[.int .i64 m.kind, .string m.name, .int .i64 m.version, .int .i64 m.frm, .int .i64 m.nonce, .int .i64 m.err, .string m.text] 60) (.int .i64 m.kind) (.string m.name) (.int .i64 m.version) (.int .i64 m.frm) (.int .i64 m.nonce) (.int .i64 m.err) (.string m.text) z0 z1 z2 z3 z4 z5 z6
  refine bodyPost_ret (v := .tuple #[outV (some m), .int .i64 ((8 + p.length : Nat) : Int), .int .i64 0]) (by simp [results, Try.results37, go_sem, outV, msgV, y0, y1, y2, y3, y4, y5, y6]) rfl ⟨?_, rfl⟩
  exact (((((((hbw.setCell (p := ⟨w.heap.size, 0, none⟩) (Nat.le_refl _) _).setCell (p := ⟨w.heap.size, 1, none⟩) (Nat.le_refl _) _).setCell (p := ⟨w.heap.size, 2, none⟩) (Nat.le_refl _) _).setCell (p := ⟨w.heap.size, 3, none⟩) (Nat.le_refl _) _).setCell (p := ⟨w.heap.size, 4, none⟩) (Nat.le_refl _) _).setCell (p := ⟨w.heap.size, 5, none⟩) (Nat.le_refl _) _).setCell (p := ⟨w.heap.size, 6, none⟩) (Nat.le_refl _) _).alloc (by simpa [go_sem] using hbw.size) _

set_option maxRecDepth 100000 in
set_option maxHeartbeats 2000000 in
theorem dr_short (b : List UInt8) (n : Nat) (hn : n = b.length) (A : Option Addr) (c : Nat) (w : World) (hl : n ≤ 140737756790784) (hs : b.length < 4) :
    Calls Try.prog 38 #[.slice A n c] w (DecO w (none, 0, 10)) := by
  have hsI : (n : Int) < 4 := by omega
  have HB := Lib.hid (one_box w w.heap.size (Nat.le_refl _))
  clear hn
  go_enter Try.func38, Try.ntmps38
  go_wp2
  refine bodyPost_ret (v := .tuple #[zMsg, .int .i64 0, .int .i64 10]) (by simp [results, Try.results38, go_sem, zMsg]) rfl ⟨?_, rfl⟩
  exact HB.out _ 0

set_option maxRecDepth 100000 in
set_option maxHeartbeats 2000000 in
theorem dr_big (b : List UInt8) (n : Nat) (hn : n = b.length) (A : Option Addr) (c : Nat) (w : World) (hr : Rd w w.heap.size A (bv b)) (hl : n ≤ 140737756790784) (hs : 4 ≤ b.length) (hbig : 131072 < be (b.take 4)) :
    Calls Try.prog 38 #[.slice A n c] w (DecO w (none, 0, 190)) := by
  obtain ⟨N, hNe⟩ : ∃ N, N = be (b.take 4) := ⟨_, rfl⟩
  have hV : (N : Int) = nul ((b.drop 0).take 4) := by rw [hNe]; exact (nul_small (take_le b 4)).1.symm
  have C0 := Lib.hid (fun (W : World) (hb : Below w.heap.size w W) => num_v b n hn 0 4 0 4 rfl rfl (N : Int) hV (by omega) (by omega) A c w.heap.size w W hr hb (by omega))
  rw [← hNe] at hbig
  have hsI : ¬ (n : Int) < 4 := by omega
  have hb1 : (131072 : Int) < (N : Int) := by omega
  have HB := Lib.hid (one_box w w.heap.size (Nat.le_refl _))
  clear hn hNe hV hr
  go_enter Try.func38, Try.ntmps38
  go_wp2_with (first
    | (go_at_call 63; (refine (C0.out _ (HB.out _ 0)).mono ?_); rintro e w1 ⟨rfl, rfl⟩)
    | fail)
  refine bodyPost_ret (v := .tuple #[zMsg, .int .i64 0, .int .i64 190]) (by simp [results, Try.results38, go_sem, zMsg]) rfl ⟨?_, rfl⟩
  exact HB.out _ 0

set_option maxRecDepth 100000 in
set_option maxHeartbeats 2000000 in
theorem dr_part (b : List UInt8) (n : Nat) (hn : n = b.length) (A : Option Addr) (c : Nat) (w : World) (hr : Rd w w.heap.size A (bv b)) (hl : n ≤ 140737756790784) (hs : 4 ≤ b.length) (hN : be (b.take 4) ≤ 131072) (hp : b.length < be (b.take 4) + 8) :
    Calls Try.prog 38 #[.slice A n c] w (DecO w (none, 0, 10)) := by
  obtain ⟨N, hNe⟩ : ∃ N, N = be (b.take 4) := ⟨_, rfl⟩
  have hV : (N : Int) = nul ((b.drop 0).take 4) := by rw [hNe]; exact (nul_small (take_le b 4)).1.symm
  have C0 := Lib.hid (fun (W : World) (hb : Below w.heap.size w W) => num_v b n hn 0 4 0 4 rfl rfl (N : Int) hV (by omega) (by omega) A c w.heap.size w W hr hb (by omega))
  rw [← hNe] at hN hp
  have hsI : ¬ (n : Int) < 4 := by omega
  have hb1 : ¬ (131072 : Int) < (N : Int) := by omega
  have hp1 : (n : Int) < (N : Int) + 8 := by omega
  have hp2 : (n : Int) < 8 + (N : Int) := by omega
  have HB := Lib.hid (one_box w w.heap.size (Nat.le_refl _))
  clear hn hNe hV hr
  go_enter Try.func38, Try.ntmps38
  go_wp2_with (first
    | (go_at_call 63; (refine (C0.out _ (HB.out _ 0)).mono ?_); rintro e w1 ⟨rfl, rfl⟩)
    | fail)
  refine bodyPost_ret (v := .tuple #[zMsg, .int .i64 0, .int .i64 10]) (by simp [results, Try.results38, go_sem, zMsg]) rfl ⟨?_, rfl⟩
  exact HB.out _ 0

set_option maxRecDepth 100000 in
set_option maxHeartbeats 2000000 in
theorem dr_nonext (b : List UInt8) (n : Nat) (hn : n = b.length) (A : Option Addr) (c : Nat) (hc : n ≤ c) (w : World) (hr : Rd w w.heap.size A (bv b)) (hl : n ≤ 140737756790784) (hs : 4 ≤ b.length) (hN : be (b.take 4) ≤ 131072) (hp : be (b.take 4) + 8 ≤ b.length) (hx : nextS (b.take (be (b.take 4) + 8)) = none) :
    Calls Try.prog 38 #[.slice A n c] w (DecO w (none, 0, 190)) := by
  obtain ⟨N, hNe⟩ : ∃ N, N = be (b.take 4) := ⟨_, rfl⟩
  have hV : (N : Int) = nul ((b.drop 0).take 4) := by rw [hNe]; exact (nul_small (take_le b 4)).1.symm
  have C0 := Lib.hid (fun (W : World) (hb : Below w.heap.size w W) => num_v b n hn 0 4 0 4 rfl rfl (N : Int) hV (by omega) (by omega) A c w.heap.size w W hr hb (by omega))
  rw [← hNe] at hN hp hx
  have hsI : ¬ (n : Int) < 4 := by omega
  have hb1 : ¬ (131072 : Int) < (N : Int) := by omega
  have hp1 : ¬ (n : Int) < (N : Int) + 8 := by omega
  have hp2 : ¬ (n : Int) < 8 + (N : Int) := by omega
  obtain ⟨M, hM⟩ : ∃ M, M = N + 8 := ⟨_, rfl⟩
  have hM1 : (N : Int) + 8 = (M : Int) := by omega
  have hM2 : (8 : Int) + (N : Int) = (M : Int) := by omega
  have hM3 : (M : Int) ≤ (c : Int) := by omega
  have hM4 : (0 : Int) ≤ (M : Int) := Int.natCast_nonneg _
  rw [← hM] at hx
  have hrt : Rd w w.heap.size A (bv (b.take M)) := by have := hr.take M; simpa [bv, List.map_take] using this
  have hMl : M = (b.take M).length := by rw [List.length_take]; omega
  have NX := Lib.hid (fun (W : World) (hb : Below w.heap.size w W) => rnext_any (b.take M) M hMl A c w.heap.size W (hrt.below hb) hb.size (by omega) (by rw [← hMl]; omega))
  have hx0 := hx
  rw [hx] at NX
  have HB := Lib.hid (one_box w w.heap.size (Nat.le_refl _))
  clear hn hNe hV hM hx hx0 hrt hMl hr
  go_enter Try.func38, Try.ntmps38
  go_wp2_with (first
    | (go_at_call 63; (refine (C0.out _ (HB.out _ 0)).mono ?_); rintro e w1 ⟨rfl, rfl⟩)
    | (go_at_call 19; (refine (NX.out _ (HB.out _ 0)).mono ?_); rintro e w5 ⟨b5, rfl⟩; obtain ⟨hz9, hbw, hs5⟩ := box1_at (k := 0) b5; have z0 := cellAt hz9 (j := 0) rfl; have f0 := frozenAt hz9 (j := 0); have z1 := cellAt hz9 (j := 1) rfl; have f1 := frozenAt hz9 (j := 1); have z2 := cellAt hz9 (j := 2) rfl; have f2 := frozenAt hz9 (j := 2); have z3 := cellAt hz9 (j := 3) rfl; have f3 := frozenAt hz9 (j := 3); have z4 := cellAt hz9 (j := 4) rfl; have f4 := frozenAt hz9 (j := 4); have z5 := cellAt hz9 (j := 5) rfl; have f5 := frozenAt hz9 (j := 5); have z6 := cellAt hz9 (j := 6) rfl; have f6 := frozenAt hz9 (j := 6); clear b5 hz9)
    | fail)
  refine bodyPost_ret (v := .tuple #[zMsg, .int .i64 0, .int .i64 190]) (by simp [results, Try.results38, go_sem, zMsg, z0, z1, z2, z3, z4, z5, z6]) rfl ⟨?_, rfl⟩
  exact ((((((hbw.setCell (p := ⟨w.heap.size, 0, none⟩) (Nat.le_refl _) _).setCell (p := ⟨w.heap.size, 1, none⟩) (Nat.le_refl _) _).setCell (p := ⟨w.heap.size, 2, none⟩) (Nat.le_refl _) _).setCell (p := ⟨w.heap.size, 3, none⟩) (Nat.le_refl _) _).setCell (p := ⟨w.heap.size, 4, none⟩) (Nat.le_refl _) _).setCell (p := ⟨w.heap.size, 5, none⟩) (Nat.le_refl _) _).setCell (p := ⟨w.heap.size, 6, none⟩) (Nat.le_refl _) _

set_option maxRecDepth 100000 in
set_option maxHeartbeats 2000000 in
theorem dr_nomsg (b : List UInt8) (n : Nat) (hn : n = b.length) (A : Option Addr) (c : Nat) (hc : n ≤ c) (w : World) (hr : Rd w w.heap.size A (bv b)) (hl : n ≤ 140737756790784) (hs : 4 ≤ b.length) (hN : be (b.take 4) ≤ 131072) (hp : be (b.take 4) + 8 ≤ b.length) (p : List UInt8) (hx : nextS (b.take (be (b.take 4) + 8)) = some p) (hm : msgS p = none) :
    Calls Try.prog 38 #[.slice A n c] w (DecO w (none, 0, 190)) := by
  obtain ⟨N, hNe⟩ : ∃ N, N = be (b.take 4) := ⟨_, rfl⟩
  have hV : (N : Int) = nul ((b.drop 0).take 4) := by rw [hNe]; exact (nul_small (take_le b 4)).1.symm
  have C0 := Lib.hid (fun (W : World) (hb : Below w.heap.size w W) => num_v b n hn 0 4 0 4 rfl rfl (N : Int) hV (by omega) (by omega) A c w.heap.size w W hr hb (by omega))
  rw [← hNe] at hN hp hx
  have hsI : ¬ (n : Int) < 4 := by omega
  have hb1 : ¬ (131072 : Int) < (N : Int) := by omega
  have hp1 : ¬ (n : Int) < (N : Int) + 8 := by omega
  have hp2 : ¬ (n : Int) < 8 + (N : Int) := by omega
  obtain ⟨M, hM⟩ : ∃ M, M = N + 8 := ⟨_, rfl⟩
  have hM1 : (N : Int) + 8 = (M : Int) := by omega
  have hM2 : (8 : Int) + (N : Int) = (M : Int) := by omega
  have hM3 : (M : Int) ≤ (c : Int) := by omega
  have hM4 : (0 : Int) ≤ (M : Int) := Int.natCast_nonneg _
  rw [← hM] at hx
  have hrt : Rd w w.heap.size A (bv (b.take M)) := by have := hr.take M; simpa [bv, List.map_take] using this
  have hMl : M = (b.take M).length := by rw [List.length_take]; omega
  have NX := Lib.hid (fun (W : World) (hb : Below w.heap.size w W) => rnext_any (b.take M) M hMl A c w.heap.size W (hrt.below hb) hb.size (by omega) (by rw [← hMl]; omega))
  have hx0 := hx
  rw [hx] at NX

  have hpl : p.length ≤ 131072 := (nextS_len hx0).1
  have HM := Lib.hid hm
  clear hm
  have HB := Lib.hid (one_box w w.heap.size (Nat.le_refl _))
  clear hn hNe hV hM hx hx0 hrt hMl hr
  go_enter Try.func38, Try.ntmps38
  go_wp2_with (first
    | (go_at_call 63; (refine (C0.out _ (HB.out _ 0)).mono ?_); rintro e w1 ⟨rfl, rfl⟩)
    | (go_at_call 19; (refine (NX.out _ (HB.out _ 0)).mono ?_); rintro e w5 ⟨b5, A5, c5, rfl, h5⟩; obtain ⟨hz5, hb5, hs5⟩ := box1_at (k := 0) b5; clear b5)
    | (go_at_call 64; (refine (read_any p p.length rfl A5 c5 (own_cap h5) w5.heap.size w5 h5.rd (Nat.le_refl _) (by omega)).mono ?_); rw [HM.out]; rintro e w6 ⟨b6, rfl⟩; try unfold zMsg; have hz9 := (b6.block w.heap.size (by omega)).trans hz5; have hbw := hb5.trans (b6.mono hb5.size); have hlt6 : w.heap.size < w6.heap.size := (by have := b6.size; omega); have hne6 : ¬ w6.heap.size = w.heap.size := (by omega); have hne7 : ¬ w.heap.size = w6.heap.size := (by omega); have z0 := cellAt hz9 (j := 0) rfl; have f0 := frozenAt hz9 (j := 0); have z1 := cellAt hz9 (j := 1) rfl; have f1 := frozenAt hz9 (j := 1); have z2 := cellAt hz9 (j := 2) rfl; have f2 := frozenAt hz9 (j := 2); have z3 := cellAt hz9 (j := 3) rfl; have f3 := frozenAt hz9 (j := 3); have z4 := cellAt hz9 (j := 4) rfl; have f4 := frozenAt hz9 (j := 4); have z5 := cellAt hz9 (j := 5) rfl; have f5 := frozenAt hz9 (j := 5); have z6 := cellAt hz9 (j := 6) rfl; have f6 := frozenAt hz9 (j := 6); clear b6 hz9 hz5)
    | fail)
  obtain ⟨y0, y1, y2, y3, y4, y5, y6⟩ := box7 (.cells #[.int .i64 0, .string ⟨#[]⟩, .int .i64 0, .int .i64 0, .int .i64 0, .int .i64 0, .string ⟨#[]⟩] 57) (.int .i64 0) (.string ⟨#[]⟩) (.int .i64 0) (.int .i64 0) (.int .i64 0) (.int .i64 0) (.string ⟨#[]⟩) z0 z1 z2 z3 z4 z5 z6
  refine bodyPost_ret (v := .tuple #[zMsg, .int .i64 0, .int .i64 190]) (by simp [results, Try.results38, go_sem, zMsg, y0, y1, y2, y3, y4, y5, y6]) rfl ⟨?_, rfl⟩
  exact (((((((hbw.setCell (p := ⟨w.heap.size, 0, none⟩) (Nat.le_refl _) _).setCell (p := ⟨w.heap.size, 1, none⟩) (Nat.le_refl _) _).setCell (p := ⟨w.heap.size, 2, none⟩) (Nat.le_refl _) _).setCell (p := ⟨w.heap.size, 3, none⟩) (Nat.le_refl _) _).setCell (p := ⟨w.heap.size, 4, none⟩) (Nat.le_refl _) _).setCell (p := ⟨w.heap.size, 5, none⟩) (Nat.le_refl _) _).setCell (p := ⟨w.heap.size, 6, none⟩) (Nat.le_refl _) _).alloc (by simpa [go_sem] using hbw.size) _

set_option maxRecDepth 100000 in
set_option maxHeartbeats 2000000 in
theorem dr_good (b : List UInt8) (n : Nat) (hn : n = b.length) (A : Option Addr) (c : Nat) (hc : n ≤ c) (w : World) (hr : Rd w w.heap.size A (bv b)) (hl : n ≤ 140737756790784) (hs : 4 ≤ b.length) (hN : be (b.take 4) ≤ 131072) (hp : be (b.take 4) + 8 ≤ b.length) (p : List UInt8) (hx : nextS (b.take (be (b.take 4) + 8)) = some p) (m : Msg) (hm : msgS p = some m) :
    Calls Try.prog 38 #[.slice A n c] w (DecO w (some m, ((8 + p.length : Nat) : Int), 0)) := by
  obtain ⟨N, hNe⟩ : ∃ N, N = be (b.take 4) := ⟨_, rfl⟩
  have hV : (N : Int) = nul ((b.drop 0).take 4) := by rw [hNe]; exact (nul_small (take_le b 4)).1.symm
  have C0 := Lib.hid (fun (W : World) (hb : Below w.heap.size w W) => num_v b n hn 0 4 0 4 rfl rfl (N : Int) hV (by omega) (by omega) A c w.heap.size w W hr hb (by omega))
  rw [← hNe] at hN hp hx
  have hsI : ¬ (n : Int) < 4 := by omega
  have hb1 : ¬ (131072 : Int) < (N : Int) := by omega
  have hp1 : ¬ (n : Int) < (N : Int) + 8 := by omega
  have hp2 : ¬ (n : Int) < 8 + (N : Int) := by omega
  obtain ⟨M, hM⟩ : ∃ M, M = N + 8 := ⟨_, rfl⟩
  have hM1 : (N : Int) + 8 = (M : Int) := by omega
  have hM2 : (8 : Int) + (N : Int) = (M : Int) := by omega
  have hM3 : (M : Int) ≤ (c : Int) := by omega
  have hM4 : (0 : Int) ≤ (M : Int) := Int.natCast_nonneg _
  rw [← hM] at hx
  have hrt : Rd w w.heap.size A (bv (b.take M)) := by have := hr.take M; simpa [bv, List.map_take] using this
  have hMl : M = (b.take M).length := by rw [List.length_take]; omega
  have NX := Lib.hid (fun (W : World) (hb : Below w.heap.size w W) => rnext_any (b.take M) M hMl A c w.heap.size W (hrt.below hb) hb.size (by omega) (by rw [← hMl]; omega))
  have hx0 := hx
  rw [hx] at NX

  have hpl : p.length ≤ 131072 := (nextS_len hx0).1
  have HM := Lib.hid hm
  clear hm
  have HB := Lib.hid (one_box w w.heap.size (Nat.le_refl _))
  clear hn hNe hV hM hx hx0 hrt hMl hr
  go_enter Try.func38, Try.ntmps38
  go_wp2_with (first
    | (go_at_call 63; (refine (C0.out _ (HB.out _ 0)).mono ?_); rintro e w1 ⟨rfl, rfl⟩)
    | (go_at_call 19; (refine (NX.out _ (HB.out _ 0)).mono ?_); rintro e w5 ⟨b5, A5, c5, rfl, h5⟩; obtain ⟨hz5, hb5, hs5⟩ := box1_at (k := 0) b5; clear b5)
    | (go_at_call 64; (refine (read_any p p.length rfl A5 c5 (own_cap h5) w5.heap.size w5 h5.rd (Nat.le_refl _) (by omega)).mono ?_); rw [HM.out]; rintro e w6 ⟨b6, rfl⟩; try unfold msgV; have hz9 := (b6.block w.heap.size (by omega)).trans hz5; have hbw := hb5.trans (b6.mono hb5.size); have hlt6 : w.heap.size < w6.heap.size := (by have := b6.size; omega); have hne6 : ¬ w6.heap.size = w.heap.size := (by omega); have hne7 : ¬ w.heap.size = w6.heap.size := (by omega); have z0 := cellAt hz9 (j := 0) rfl; have f0 := frozenAt hz9 (j := 0); have z1 := cellAt hz9 (j := 1) rfl; have f1 := frozenAt hz9 (j := 1); have z2 := cellAt hz9 (j := 2) rfl; have f2 := frozenAt hz9 (j := 2); have z3 := cellAt hz9 (j := 3) rfl; have f3 := frozenAt hz9 (j := 3); have z4 := cellAt hz9 (j := 4) rfl; have f4 := frozenAt hz9 (j := 4); have z5 := cellAt hz9 (j := 5) rfl; have f5 := frozenAt hz9 (j := 5); have z6 := cellAt hz9 (j := 6) rfl; have f6 := frozenAt hz9 (j := 6); clear b6 hz9 hz5)
    | fail)
  obtain ⟨y0, y1, y2, y3, y4, y5, y6⟩ := box7 (.cells #[.int .i64 m.kind, .string m.name, .int .i64 m.version, .int .i64 m.frm, .int .i64 m.nonce, .int .i64 m.err, .string m.text] 57) (.int .i64 m.kind) (.string m.name) (.int .i64 m.version) (.int .i64 m.frm) (.int .i64 m.nonce) (.int .i64 m.err) (.string m.text) z0 z1 z2 z3 z4 z5 z6
  refine bodyPost_ret (v := .tuple #[outV (some m), .int .i64 ((8 + p.length : Nat) : Int), .int .i64 0]) (by simp [results, Try.results38, go_sem, outV, msgV, y0, y1, y2, y3, y4, y5, y6]) rfl ⟨?_, rfl⟩
  exact (((((((hbw.setCell (p := ⟨w.heap.size, 0, none⟩) (Nat.le_refl _) _).setCell (p := ⟨w.heap.size, 1, none⟩) (Nat.le_refl _) _).setCell (p := ⟨w.heap.size, 2, none⟩) (Nat.le_refl _) _).setCell (p := ⟨w.heap.size, 3, none⟩) (Nat.le_refl _) _).setCell (p := ⟨w.heap.size, 4, none⟩) (Nat.le_refl _) _).setCell (p := ⟨w.heap.size, 5, none⟩) (Nat.le_refl _) _).setCell (p := ⟨w.heap.size, 6, none⟩) (Nat.le_refl _) _).alloc (by simpa [go_sem] using hbw.size) _

theorem decT_cases (b : List UInt8) (P : Option Msg × Int × Int → Prop) (h1 : b.length < 4 → P (none, 0, 10)) (h2 : 4 ≤ b.length → 131072 < be (b.take 4) → P (none, 0, 190)) (h3 : 4 ≤ b.length → be (b.take 4) ≤ 131072 → b.length < be (b.take 4) + 8 → P (none, 0, 10))
    (h4 : 4 ≤ b.length → be (b.take 4) ≤ 131072 → be (b.take 4) + 8 ≤ b.length → nextS (b.take (be (b.take 4) + 8)) = none → P (none, 0, 190))
    (h5 : 4 ≤ b.length → be (b.take 4) ≤ 131072 → be (b.take 4) + 8 ≤ b.length → ∀ p, nextS (b.take (be (b.take 4) + 8)) = some p → msgS p = none → P (none, 0, 190))
    (h6 : 4 ≤ b.length → be (b.take 4) ≤ 131072 → be (b.take 4) + 8 ≤ b.length → ∀ p, nextS (b.take (be (b.take 4) + 8)) = some p → ∀ m, msgS p = some m → P (some m, ((8 + p.length : Nat) : Int), 0)) : P (decT b) := by
  unfold decT
  by_cases a1 : b.length < 4
  · rw [if_pos a1]; exact h1 a1
  rw [if_neg a1]
  by_cases a2 : 131072 < be (b.take 4)
  · rw [if_pos a2]; exact h2 (by omega) a2
  rw [if_neg a2]
  by_cases a3 : b.length < be (b.take 4) + 8
  · rw [if_pos a3]; exact h3 (by omega) (by omega) a3
  rw [if_neg a3]
  cases hx : nextS (b.take (be (b.take 4) + 8)) with
  | none => exact h4 (by omega) (by omega) (by omega) hx
  | some p =>
    cases hm : msgS p with
    | none => simpa only [hm] using h5 (by omega) (by omega) (by omega) p hx hm
    | some m => simpa only [hm] using h6 (by omega) (by omega) (by omega) p hx m hm

theorem decode_any (b : List UInt8) (n : Nat) (hn : n = b.length) (A : Option Addr) (c : Nat) (hA : A = none → c = 0) (hc : n ≤ c) (w : World) (hr : Rd w w.heap.size A (bv b)) (hl : n ≤ 140737756790784) : Calls Try.prog 37 #[.slice A n c] w (DecO w (decT b)) :=
  decT_cases b (fun t => Calls Try.prog 37 #[.slice A n c] w (DecO w t)) (dp_short b n hn A c hc w hr hl) (dp_big b n hn A c hA hc w hr hl) (dp_part b n hn A c hA hc w hr hl) (dp_nonext b n hn A c hA hc w hr hl) (dp_nomsg b n hn A c hA hc w hr hl) (dp_good b n hn A c hA hc w hr hl)
theorem rdecode_any (b : List UInt8) (n : Nat) (hn : n = b.length) (A : Option Addr) (c : Nat) (hc : n ≤ c) (w : World) (hr : Rd w w.heap.size A (bv b)) (hl : n ≤ 140737756790784) : Calls Try.prog 38 #[.slice A n c] w (DecO w (decT b)) :=
  decT_cases b (fun t => Calls Try.prog 38 #[.slice A n c] w (DecO w t)) (dr_short b n hn A c w hl) (dr_big b n hn A c w hr hl) (dr_part b n hn A c w hr hl) (dr_nonext b n hn A c hc w hr hl) (dr_nomsg b n hn A c hc w hr hl) (dr_good b n hn A c hc w hr hl)

end Go.Proofs.Ytbhjcfhpabnadaa
