/-
  The walks of the two functions that ScriptReads hands to the iterator.
-/
import Derived.Test.YtpafimjdlbnckaaRange
import Derived.Test.YtpafimjdlbnckaaStep
import Derived.StillTailTactics
namespace Go.Proofs.Ytpafimjdlbnckaa
open Go.RowKit

theorem Boxed.drew_ {w : World} {b : Nat} {t : TypeId} {v : Value} (h : Boxed w b t v) : Boxed w.drew b t v := h
theorem Boxed.other {w : World} {b : Nat} {t : TypeId} {v : Value} {p : Addr} (u : Value) (h : Boxed w b t v) (hne : p.block ≠ b) : Boxed (w.setCell p u) b t v :=
  (Below.heap_setCell _ _ _ _ (Ne.symm hne)).trans h
theorem step_at (op a b at_ : Int) (xs : List UInt8) (n : Nat) (hn : n = xs.length) (D D' : Option Addr) (c c' B B' : Nat) (w : World) (hx : Rd w B D (bv xs)) (hy : Rd w B' D' (bv xs)) (hB : B ≤ w.heap.size) (hB' : B' ≤ w.heap.size)
    (hxl : n ≤ 16777216) :
    Calls Try.prog 10 #[.agg #[.int .i64 op, .int .i64 a, .int .i64 b, .slice D n c], .agg #[.int .i64 op, .int .i64 a, .int .i64 b, .slice D' n c', .int .i64 at_]] w
      fun e w' => e = .returned (.bool true) ∧ Below w.heap.size w w' := by
  subst hn
  exact step_eq op a b at_ xs D D' c c' B B' w hx hy hB hB' (by omega)

theorem cell_at {w : World} {b j : Nat} {cs : Array Value} {t : TypeId} {v : Value} (h : w.heap[b]? = some (.cells cs t (0, 0))) (hj : cs[j]? = some v) : w.cell? ⟨b, j, none⟩ = some v := by
  unfold World.cell?
  simp only [h]
  simpa using hj

set_option maxRecDepth 100000 in
set_option maxHeartbeats 1000000 in
theorem cl17_any (k q t : Nat) (mo op a b : Int) (xs : List UInt8) (n : Nat) (hn : n = xs.length) (D D' : Option Addr) (c c' g wc f nb wb mb B B' : Nat) (w : World)
    (hf : Boxed w f 4 (.bool true)) (hq : Boxed w nb 3 (.int .i64 q)) (hw : Boxed w wb 23 (.slice (some ⟨g, 0, none⟩) t wc)) (hm : Boxed w mb 3 (.int .i64 mo)) (hqt : q < t) (ht : t ≤ 16777216) (hnl : n ≤ 16777216)
    (e0 : w.cell? ⟨g, q * 5, none⟩ = some (.int .i64 op)) (e1 : w.cell? ⟨g, q * 5 + 1, none⟩ = some (.int .i64 a)) (e2 : w.cell? ⟨g, q * 5 + 2, none⟩ = some (.int .i64 b)) (e3 : w.cell? ⟨g, q * 5 + 3, none⟩ = some (.slice D' n c')) (e4 : w.cell? ⟨g, q * 5 + 4, none⟩ = some (.int .i64 k))
    (hx : Rd w B D (bv xs)) (hy : Rd w B' D' (bv xs)) (hB : B ≤ w.heap.size) (hB' : B' ≤ w.heap.size) (hfn : f ≠ nb) (hnw : nb ≠ wb) (hnm : nb ≠ mb) (hfw : f ≠ wb) (hfm : f ≠ mb) (hg : g < w.heap.size) :
    Calls Try.prog 17 #[.int .i64 k, .agg #[.int .i64 op, .int .i64 a, .int .i64 b, .slice D n c], .pointer (some ⟨f, 0, none⟩), .pointer (some ⟨nb, 0, none⟩), .pointer (some ⟨wb, 0, none⟩), .pointer (some ⟨mb, 0, none⟩)] w
      fun e w' => e = .returned (.bool ((q : Int) + 1 != mo)) ∧ Boxed w' f 4 (.bool true) ∧ Boxed w' nb 3 (.int .i64 (q + 1 : Nat)) ∧ Kp (fun k => k ≠ f ∧ k ≠ nb) w w' := by
  have hqI0 : (0 : Int) ≤ (q : Int) := Int.natCast_nonneg _
  have hqI : (q : Int) < (t : Int) := by omega
  have HN := Lib.hid hn
  clear hn
  go_enter Try.func17, Try.ntmps17
  go_wp2
  obtain ⟨V, hV⟩ : ∃ V, V = w.alloc (.cells #[.int .i64 op, .int .i64 a, .int .i64 b, .slice D n c] 26) := ⟨_, rfl⟩
  have bV : Below w.heap.size w V := by rw [hV]; exact (Below.refl _ w).alloc (Nat.le_refl _) _
  have kV := World.alloc_heap_new w (.cells #[.int .i64 op, .int .i64 a, .int .i64 b, .slice D n c] 26)
  rw [← hV] at kV ⊢
  obtain ⟨z, hz⟩ : ∃ z, z = w.heap.size := ⟨_, rfl⟩
  rw [← hz] at kV bV ⊢
  have hf2 := (bV.block f (by rw [hz]; exact hf.lt)).trans hf
  have hq2 := (bV.block nb (by rw [hz]; exact hq.lt)).trans hq
  have hw2 := (bV.block wb (by rw [hz]; exact hw.lt)).trans hw
  have hm2 := (bV.block mb (by rw [hz]; exact hm.lt)).trans hm
  have ef := Boxed.cell hf2
  have en := Boxed.cell hq2
  have ew := Boxed.cell hw2
  have em := Boxed.cell hm2
  have s0 : V.cell? ⟨z, 0, none⟩ = some (.int .i64 op) := cell_at kV rfl
  have s1 : V.cell? ⟨z, 1, none⟩ = some (.int .i64 a) := cell_at kV rfl
  have s2 : V.cell? ⟨z, 2, none⟩ = some (.int .i64 b) := cell_at kV rfl
  have s3 : V.cell? ⟨z, 3, none⟩ = some (.slice D n c) := cell_at kV rfl
  have v0 := (bV.cell (p := ⟨g, q * 5, none⟩) (by rw [hz]; exact hg)).trans e0
  have v1 := (bV.cell (p := ⟨g, q * 5 + 1, none⟩) (by rw [hz]; exact hg)).trans e1
  have v2 := (bV.cell (p := ⟨g, q * 5 + 2, none⟩) (by rw [hz]; exact hg)).trans e2
  have v3 := (bV.cell (p := ⟨g, q * 5 + 3, none⟩) (by rw [hz]; exact hg)).trans e3
  have v4 := (bV.cell (p := ⟨g, q * 5 + 4, none⟩) (by rw [hz]; exact hg)).trans e4
  have HZ := Lib.hid hz
  have hgz : g < z := by rw [hz]; exact hg
  have fz : f < z := by rw [hz]; exact hf.lt
  have nz : nb < z := by rw [hz]; exact hq.lt
  have K0 := Kp.of_below (M := fun k => k ≠ f ∧ k ≠ nb) (hz ▸ bV)
  have hx2 := hx.below (bV.mono (hz ▸ hB))
  have hy2 := hy.below (bV.mono (hz ▸ hB'))
  have hBz : B ≤ V.heap.size := Nat.le_trans (hz ▸ hB) bV.size
  have hBz' : B' ≤ V.heap.size := Nat.le_trans (hz ▸ hB') bV.size
  clear hV e0 e1 e2 e3 e4 hz hf hq hw hm hx hy hB hB' hg
  go_still_tail 22, (by kernel_rfl)
  change wpList _ _ _ _ _ V.drew
  have hf3 := Boxed.drew_ hf2
  have hq3 := Boxed.drew_ hq2
  have hm3 := Boxed.drew_ hm2
  clear ef en ew em s0 s1 s2 s3 v0 v1 v2 v3 v4
  go_wp2_with (first | (go_at_call 10; go_loud (refine (step_at op a b k xs n HN.out D D' c c' B B' V.drew hx2 hy2 hBz hBz' hnl).mono ?_); rintro e w1 ⟨rfl, b1⟩; have hf1 := (b1.block f hf3.lt).trans hf3; have hq1 := (b1.block nb hq3.lt).trans hq3; have hm1 := (b1.block mb hm3.lt).trans hm3; have ef := Boxed.cell hf1; have ff := Boxed.frozen hf1; have en := Boxed.cell hq1; have fn := Boxed.frozen hq1; have em := Boxed.cell hm1; have K1 := K0.trans (Kp.of_below (M := fun k => k ≠ f ∧ k ≠ nb) ((Below.refl _ V).drew.trans b1)); have hfw1 := Boxed.set (.bool true) hf1; have hqw1 := Boxed.other (p := ⟨f, 0, none⟩) (.bool true) hq1 hfn; have kq := Boxed.set (.int .i64 ((q : Int) + 1)) hqw1; have kf := Boxed.other (p := ⟨nb, 0, none⟩) (.int .i64 ((q : Int) + 1)) hfw1 (Ne.symm hfn)) | fail)
  go_ret
  refine ⟨rfl, kf, by simpa using kq, ?_⟩
  exact (K1.setCell (p := ⟨f, 0, none⟩) (by simp) _).setCell (p := ⟨nb, 0, none⟩) (by simp) _

set_option maxRecDepth 100000 in
set_option maxHeartbeats 1000000 in
theorem cl18_any (k q t : Nat) (op a b : Int) (xs : List UInt8) (n : Nat) (hn : n = xs.length) (D D' : Option Addr) (c c' g wc f nb wb B B' : Nat) (w : World)
    (hf : Boxed w f 4 (.bool true)) (hq : Boxed w nb 3 (.int .i64 q)) (hw : Boxed w wb 23 (.slice (some ⟨g, 0, none⟩) t wc)) (hqt : q < t) (ht : t ≤ 16777216) (hnl : n ≤ 16777216)
    (e0 : w.cell? ⟨g, q * 5, none⟩ = some (.int .i64 op)) (e1 : w.cell? ⟨g, q * 5 + 1, none⟩ = some (.int .i64 a)) (e2 : w.cell? ⟨g, q * 5 + 2, none⟩ = some (.int .i64 b)) (e3 : w.cell? ⟨g, q * 5 + 3, none⟩ = some (.slice D' n c')) (e4 : w.cell? ⟨g, q * 5 + 4, none⟩ = some (.int .i64 k))
    (hx : Rd w B D (bv xs)) (hy : Rd w B' D' (bv xs)) (hB : B ≤ w.heap.size) (hB' : B' ≤ w.heap.size) (hfn : f ≠ nb) (hnw : nb ≠ wb) (hfw : f ≠ wb) (hg : g < w.heap.size) :
    Calls Try.prog 18 #[.int .i64 k, .agg #[.int .i64 op, .int .i64 a, .int .i64 b, .slice D n c], .pointer (some ⟨f, 0, none⟩), .pointer (some ⟨nb, 0, none⟩), .pointer (some ⟨wb, 0, none⟩)] w
      fun e w' => e = .returned (.bool true) ∧ Boxed w' f 4 (.bool true) ∧ Boxed w' nb 3 (.int .i64 (q + 1 : Nat)) ∧ Kp (fun k => k ≠ f ∧ k ≠ nb) w w' := by
  have hqI0 : (0 : Int) ≤ (q : Int) := Int.natCast_nonneg _
  have hqI : (q : Int) < (t : Int) := by omega
  have HN := Lib.hid hn
  clear hn
  go_enter Try.func18, Try.ntmps18
  go_wp2
  obtain ⟨V, hV⟩ : ∃ V, V = w.alloc (.cells #[.int .i64 op, .int .i64 a, .int .i64 b, .slice D n c] 26) := ⟨_, rfl⟩
  have bV : Below w.heap.size w V := by rw [hV]; exact (Below.refl _ w).alloc (Nat.le_refl _) _
  have kV := World.alloc_heap_new w (.cells #[.int .i64 op, .int .i64 a, .int .i64 b, .slice D n c] 26)
  rw [← hV] at kV ⊢
  obtain ⟨z, hz⟩ : ∃ z, z = w.heap.size := ⟨_, rfl⟩
  rw [← hz] at kV bV ⊢
  have hf2 := (bV.block f (by rw [hz]; exact hf.lt)).trans hf
  have hq2 := (bV.block nb (by rw [hz]; exact hq.lt)).trans hq
  have hw2 := (bV.block wb (by rw [hz]; exact hw.lt)).trans hw
  have ef := Boxed.cell hf2
  have en := Boxed.cell hq2
  have ew := Boxed.cell hw2
  have s0 : V.cell? ⟨z, 0, none⟩ = some (.int .i64 op) := cell_at kV rfl
  have s1 : V.cell? ⟨z, 1, none⟩ = some (.int .i64 a) := cell_at kV rfl
  have s2 : V.cell? ⟨z, 2, none⟩ = some (.int .i64 b) := cell_at kV rfl
  have s3 : V.cell? ⟨z, 3, none⟩ = some (.slice D n c) := cell_at kV rfl
  have v0 := (bV.cell (p := ⟨g, q * 5, none⟩) (by rw [hz]; exact hg)).trans e0
  have v1 := (bV.cell (p := ⟨g, q * 5 + 1, none⟩) (by rw [hz]; exact hg)).trans e1
  have v2 := (bV.cell (p := ⟨g, q * 5 + 2, none⟩) (by rw [hz]; exact hg)).trans e2
  have v3 := (bV.cell (p := ⟨g, q * 5 + 3, none⟩) (by rw [hz]; exact hg)).trans e3
  have v4 := (bV.cell (p := ⟨g, q * 5 + 4, none⟩) (by rw [hz]; exact hg)).trans e4
  have HZ := Lib.hid hz
  have hgz : g < z := by rw [hz]; exact hg
  have fz : f < z := by rw [hz]; exact hf.lt
  have nz : nb < z := by rw [hz]; exact hq.lt
  have K0 := Kp.of_below (M := fun k => k ≠ f ∧ k ≠ nb) (hz ▸ bV)
  have hx2 := hx.below (bV.mono (hz ▸ hB))
  have hy2 := hy.below (bV.mono (hz ▸ hB'))
  have hBz : B ≤ V.heap.size := Nat.le_trans (hz ▸ hB) bV.size
  have hBz' : B' ≤ V.heap.size := Nat.le_trans (hz ▸ hB') bV.size
  clear hV e0 e1 e2 e3 e4 hz hf hq hw hx hy hB hB' hg
  go_still_tail 22, (by kernel_rfl)
  change wpList _ _ _ _ _ V.drew
  have hf3 := Boxed.drew_ hf2
  have hq3 := Boxed.drew_ hq2
  clear ef en ew s0 s1 s2 s3 v0 v1 v2 v3 v4
  go_wp2_with (first | (go_at_call 10; go_loud (refine (step_at op a b k xs n HN.out D D' c c' B B' V.drew hx2 hy2 hBz hBz' hnl).mono ?_); rintro e w1 ⟨rfl, b1⟩; have hf1 := (b1.block f hf3.lt).trans hf3; have hq1 := (b1.block nb hq3.lt).trans hq3; have ef := Boxed.cell hf1; have ff := Boxed.frozen hf1; have en := Boxed.cell hq1; have fn := Boxed.frozen hq1; have K1 := K0.trans (Kp.of_below (M := fun k => k ≠ f ∧ k ≠ nb) ((Below.refl _ V).drew.trans b1)); have hfw1 := Boxed.set (.bool true) hf1; have hqw1 := Boxed.other (p := ⟨f, 0, none⟩) (.bool true) hq1 hfn; have kq := Boxed.set (.int .i64 ((q : Int) + 1)) hqw1; have kf := Boxed.other (p := ⟨nb, 0, none⟩) (.int .i64 ((q : Int) + 1)) hfw1 (Ne.symm hfn)) | fail)
  go_ret
  refine ⟨rfl, kf, by simpa using kq, ?_⟩
  exact (K1.setCell (p := ⟨f, 0, none⟩) (by simp) _).setCell (p := ⟨nb, 0, none⟩) (by simp) _

end Go.Proofs.Ytpafimjdlbnckaa
