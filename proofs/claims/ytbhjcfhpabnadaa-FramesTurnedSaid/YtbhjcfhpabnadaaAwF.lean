/-
  The walks of turnpikelaw19's awake, round, plain.
-/
import Derived.Test.YtbhjcfhpabnadaaBackS
import Derived.Test.YtbhjcfhpabnadaaFR
import Derived.Test.YtbhjcfhpabnadaaFW
import Derived.Test.YtbhjcfhpabnadaaParts
namespace Go.Proofs.Ytbhjcfhpabnadaa
open Go.RowKit

def pg : List UInt8 := [5, 0, 0, 0, 0, 0, 0, 1, 2]
theorem pay_ping : paySpec 5 ⟨#[]⟩ ⟨#[]⟩ 0 0 258 0 = some pg := by decide
theorem frame_ping : ∃ a b c d, frame pg = [0, 0, 0, 9, a, b, c, d, 5, 0, 0, 0, 0, 0, 0, 1, 2] := by
  obtain ⟨a, b, c, d, h⟩ := four_form (be4 (more 0 (be4 pg.length ++ pg))) (be4_len _)
  refine ⟨a, b, c, d, ?_⟩
  unfold frame
  rw [h]
  rfl
theorem decT_ping : decT (frame pg) = (some ⟨5, ⟨#[]⟩, 0, 0, 258, 0, ⟨#[]⟩⟩, 17, 0) := by
  have h := decT_frame (p := pg) (r := []) (by decide) (msgS_pay (m := ⟨5, ⟨#[]⟩, 0, 0, 258, 0, ⟨#[]⟩⟩) pay_ping)
  rw [List.append_nil] at h
  exact h
theorem decT_big : decT [0, 2, 0, 1] = (none, 0, 190) := by
  unfold decT
  rw [if_neg (by decide), if_pos (by decide)]
theorem decT_two : decT [0, 0] = (none, 0, 10) := by
  unfold decT
  rw [if_pos (by decide)]
/-- Decode, its answer typed out. -/
theorem dec37 {b : List UInt8} {o : Option Msg} {N E : Int} (h : decT b = (o, N, E)) (n : Nat) (hn : n = b.length) (A : Option Addr) (c : Nat) (hA : A = none → c = 0) (hc : n ≤ c) (w : World) (hr : Rd w w.heap.size A (bv b)) (hl : n ≤ 140737756790784) :
    Calls Try.prog 37 #[.slice A n c] w fun e w' => Below w.heap.size w w' ∧ e = .returned (.tuple #[msgV (mOr o), .int .i64 N, .int .i64 E]) := by
  refine (decode_any b n hn A c hA hc w hr hl).mono fun e w' h2 => ⟨h2.1, ?_⟩
  rw [h2.2, h, outV_or]
theorem enc33 {kind : Int} {name text : ByteArray} {ver frm nonce err : Int} {o : Option (List UInt8)} (h : paySpec kind name text ver frm nonce err = o) (w : World) :
    Calls Try.prog 33 #[.agg #[.int .i64 kind, .string name, .int .i64 ver, .int .i64 frm, .int .i64 nonce, .int .i64 err, .string text]] w (PairOut w (encF o) (encE o)) := by
  subst h
  exact encode_any kind name text ver frm nonce err w
theorem rd_big (W : World) : Rd (W.alloc (.cells #[.int .u8 0, .int .u8 2, .int .u8 0, .int .u8 1] 5)) (W.alloc (.cells #[.int .u8 0, .int .u8 2, .int .u8 0, .int .u8 1] 5)).heap.size (some ⟨W.heap.size, 0, none⟩) (bv [0, 2, 0, 1]) := by
  have h := new_rd W #[.int .u8 0, .int .u8 2, .int .u8 0, .int .u8 1] 5 (W.alloc (.cells #[.int .u8 0, .int .u8 2, .int .u8 0, .int .u8 1] 5)).heap.size (by simp)
  simpa [bv] using h
theorem rd_two (W : World) (k : Nat) (hk : W.heap.size = k) : Rd (W.alloc (.cells #[.int .u8 0, .int .u8 0] 5)) (W.alloc (.cells #[.int .u8 0, .int .u8 0] 5)).heap.size (some ⟨k, 0, none⟩) (bv [0, 0]) := by
  subst hk
  have h := new_rd W #[.int .u8 0, .int .u8 0] 5 (W.alloc (.cells #[.int .u8 0, .int .u8 0] 5)).heap.size (by simp)
  simpa [bv] using h

set_option maxRecDepth 100000 in
set_option maxHeartbeats 2000000 in
theorem awake46_any (w : World) : Calls Try.prog 46 #[] w fun e w' => e = .returned (.bool true) ∧ Below w.heap.size w w' := by
  obtain ⟨c1', c2', c3', c4', hF⟩ := frame_ping
  have tok1 : True := trivial
  have tok2 : True := trivial
  have tok3 : True := trivial
  have tok4 : True := trivial
  have E10 := fun W => enc33 pay_ping W
  have D10 := dec37 decT_ping 17 (by rw [hF]; rfl)
  simp only [show encF (some pg) = frame pg from rfl, show encE (some pg) = 0 from rfl] at E10
  obtain ⟨F, hFF⟩ : ∃ F, F = frame pg := ⟨_, rfl⟩
  rw [← hFF] at E10 D10 hF
  have hl17 : F.length = 17 := by rw [hF]; rfl
  have D1 := Lib.hid D10
  have E1 := Lib.hid E10
  have HF := Lib.hid hF
  clear D10 E10 hFF
  have D2 := Lib.hid (dec37 decT_big 4 rfl)
  have D3 := Lib.hid (dec37 decT_two 2 rfl)
  have E2 := Lib.hid (enc33 (payo (k := 6) (name := ⟨#[]⟩) (text := ⟨#[]⟩) (a := 0) (b := 0) (c := 0) (d := 0) (by decide) (by decide) (by decide) (by decide) (by decide)))
  clear hF
  go_enter Try.func46, Try.ntmps46
  go_wp2_with (first
    | (go_at_call 33; have _t := tok1; refine (E1.out w).mono ?_; rintro e w1 ⟨A1, k1, rfl, h1, b1⟩; rw [hl17] at h1 ⊢; obtain ⟨g1, rfl, hge1, hlt1, hle1⟩ := h1.form_pos (by omega); clear tok1 _t)
    | (go_at_call 37; have _t := tok2; refine (D1.out _ k1 (by intro h; cases h) (own_cap h1) w1 h1.rd (by omega)).mono ?_; rintro e w2 ⟨b2, rfl⟩; have t2 := b1.trans (b2.mono b1.size); have h2 := h1.below b2 (Nat.le_refl _); unfold msgV mOr; clear tok2 _t; simp only [Option.getD])
    | (go_at_call 33; refine (E2.out _).mono ?_; rintro e w3 ⟨A3, k3, rfl, h3, b3⟩; obtain ⟨hz3, d23, s3⟩ := box1_at (k := 0) b3; unfold encF encE; have t3 := t2.trans (d23.mono t2.size); have h3' := h2.below d23 (Nat.le_refl _))
    | (go_at_call 37; have _t := tok3; refine (D2.out _ _ (by intro h; cases h) (by omega) _ (rd_big _) (by omega)).mono ?_; rintro e w4 ⟨b4, rfl⟩; obtain ⟨_, d34, s4⟩ := box1_at (k := 0) b4; have t4 := t3.trans (d34.mono t3.size); have h4' := h3'.below d34 (Nat.le_refl _); unfold msgV mOr; simp only [Option.getD]; clear tok3 _t)
    | (go_at_call 37; have _t := tok4; refine (D3.out _ _ (by intro h; cases h) (by omega) _ (rd_two _ (w4.heap.size + 1) (by simp)) (by omega)).mono ?_; rintro e w5 ⟨b5, rfl⟩; unfold msgV mOr; simp only [Option.getD]; clear tok4 _t; have d45 : Below w4.heap.size w4 w5 := (((Below.refl w4.heap.size w4).alloc (Nat.le_refl _) _).alloc (by simp) _).trans (b5.mono (by simp; omega)); have h5 := h4'.below d45 (Nat.le_refl _); have t5 := t4.trans (d45.mono t4.size); have hz5 := ((d34.trans (d45.mono d34.size)).block w2.heap.size (by omega)).trans hz3; have hF := HF.out; have y0 : w5.cell? ⟨w2.heap.size, 0, none⟩ = some (.int .i64 5) := cellAt hz5 (j := 0) rfl; have u0 : (w5.alloc (.cells #[.int .i64 0, .string ⟨#[]⟩, .int .i64 0, .int .i64 0, .int .i64 0, .int .i64 0, .string ⟨#[]⟩] 60)).cell? ⟨w2.heap.size, 0, none⟩ = some (.int .i64 5) := (World.cell?_alloc_some _ _ _ (by rw [y0]; rfl)).trans y0; have y1 : w5.cell? ⟨w2.heap.size, 1, none⟩ = some (.string ⟨#[]⟩) := cellAt hz5 (j := 1) rfl; have u1 : (w5.alloc (.cells #[.int .i64 0, .string ⟨#[]⟩, .int .i64 0, .int .i64 0, .int .i64 0, .int .i64 0, .string ⟨#[]⟩] 60)).cell? ⟨w2.heap.size, 1, none⟩ = some (.string ⟨#[]⟩) := (World.cell?_alloc_some _ _ _ (by rw [y1]; rfl)).trans y1; have y2 : w5.cell? ⟨w2.heap.size, 2, none⟩ = some (.int .i64 0) := cellAt hz5 (j := 2) rfl; have u2 : (w5.alloc (.cells #[.int .i64 0, .string ⟨#[]⟩, .int .i64 0, .int .i64 0, .int .i64 0, .int .i64 0, .string ⟨#[]⟩] 60)).cell? ⟨w2.heap.size, 2, none⟩ = some (.int .i64 0) := (World.cell?_alloc_some _ _ _ (by rw [y2]; rfl)).trans y2; have y3 : w5.cell? ⟨w2.heap.size, 3, none⟩ = some (.int .i64 0) := cellAt hz5 (j := 3) rfl; have u3 : (w5.alloc (.cells #[.int .i64 0, .string ⟨#[]⟩, .int .i64 0, .int .i64 0, .int .i64 0, .int .i64 0, .string ⟨#[]⟩] 60)).cell? ⟨w2.heap.size, 3, none⟩ = some (.int .i64 0) := (World.cell?_alloc_some _ _ _ (by rw [y3]; rfl)).trans y3; have y4 : w5.cell? ⟨w2.heap.size, 4, none⟩ = some (.int .i64 258) := cellAt hz5 (j := 4) rfl; have u4 : (w5.alloc (.cells #[.int .i64 0, .string ⟨#[]⟩, .int .i64 0, .int .i64 0, .int .i64 0, .int .i64 0, .string ⟨#[]⟩] 60)).cell? ⟨w2.heap.size, 4, none⟩ = some (.int .i64 258) := (World.cell?_alloc_some _ _ _ (by rw [y4]; rfl)).trans y4; have y5 : w5.cell? ⟨w2.heap.size, 5, none⟩ = some (.int .i64 0) := cellAt hz5 (j := 5) rfl; have u5 : (w5.alloc (.cells #[.int .i64 0, .string ⟨#[]⟩, .int .i64 0, .int .i64 0, .int .i64 0, .int .i64 0, .string ⟨#[]⟩] 60)).cell? ⟨w2.heap.size, 5, none⟩ = some (.int .i64 0) := (World.cell?_alloc_some _ _ _ (by rw [y5]; rfl)).trans y5; have y6 : w5.cell? ⟨w2.heap.size, 6, none⟩ = some (.string ⟨#[]⟩) := cellAt hz5 (j := 6) rfl; have u6 : (w5.alloc (.cells #[.int .i64 0, .string ⟨#[]⟩, .int .i64 0, .int .i64 0, .int .i64 0, .int .i64 0, .string ⟨#[]⟩] 60)).cell? ⟨w2.heap.size, 6, none⟩ = some (.string ⟨#[]⟩) := (World.cell?_alloc_some _ _ _ (by rw [y6]; rfl)).trans y6; have p8 : w5.cell? ⟨g1, 8, none⟩ = some (.int .u8 5) := own_cell (b := 5) h5 (by rw [hF]; rfl); have q8 : (w5.alloc (.cells #[.int .i64 0, .string ⟨#[]⟩, .int .i64 0, .int .i64 0, .int .i64 0, .int .i64 0, .string ⟨#[]⟩] 60)).cell? ⟨g1, 8, none⟩ = some (.int .u8 5) := (World.cell?_alloc_some _ _ _ (by rw [p8]; rfl)).trans p8; have p15 : w5.cell? ⟨g1, 15, none⟩ = some (.int .u8 1) := own_cell (b := 1) h5 (by rw [hF]; rfl); have q15 : (w5.alloc (.cells #[.int .i64 0, .string ⟨#[]⟩, .int .i64 0, .int .i64 0, .int .i64 0, .int .i64 0, .string ⟨#[]⟩] 60)).cell? ⟨g1, 15, none⟩ = some (.int .u8 1) := (World.cell?_alloc_some _ _ _ (by rw [p15]; rfl)).trans p15; have p16 : w5.cell? ⟨g1, 16, none⟩ = some (.int .u8 2) := own_cell (b := 2) h5 (by rw [hF]; rfl); have q16 : (w5.alloc (.cells #[.int .i64 0, .string ⟨#[]⟩, .int .i64 0, .int .i64 0, .int .i64 0, .int .i64 0, .string ⟨#[]⟩] 60)).cell? ⟨g1, 16, none⟩ = some (.int .u8 2) := (World.cell?_alloc_some _ _ _ (by rw [p16]; rfl)).trans p16; clear hF hz5 h5)
    | fail)
  go_ret
  exact ⟨rfl, t5.alloc t5.size _⟩

end Go.Proofs.Ytbhjcfhpabnadaa
