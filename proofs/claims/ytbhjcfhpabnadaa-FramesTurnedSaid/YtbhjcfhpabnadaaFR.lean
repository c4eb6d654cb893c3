/-
  turnpikelaw19's lent and kept; the walk of FramesReads. (Printed by wip/mkfr.py.)
-/
import Derived.Test.YtbhjcfhpabnadaaDecP
namespace Go.Proofs.Ytbhjcfhpabnadaa
open Go.RowKit

set_option maxHeartbeats 400000 in
theorem lent36_any (xs : List UInt8) (A : Option Addr) (c B : Nat) (w : World) (hx : Rd w B A (bv xs)) (hn : xs.length + 2 ≤ 140737488355328) :
    Calls Try.prog 36 #[.slice A xs.length c] w (Lent w xs) := by
  go_enter Try.func36, Try.ntmps36
  go_wp2_with (first
    | (at_builtin; refine wpList_app rfl (.tmp 4) (.tmp 5) 22 rfl w.heap.size 5 1 1 Try.el22 none 0 0 [] rfl (Own.nil_ _ _ _ _) B A xs.length c (bv xs) rfl hx (by simp [bv]) (bv_one xs) xs.length (bv xs) (by omega) rfl (by omega) (by unfold maxLen; omega) (Nat.le_refl _) ?_; intro A2 c2 w2 hown2 hg2 hat2)
    | (at_builtin; refine wpList_app_new rfl (.tmp 6) (.tmp 7) 22 rfl w.heap.size 5 1 1 Try.el22 A2 xs.length c2 _ rfl hown2 _ w2.heap.size 2 2 (by simp) rfl rfl (one2 _ _ _ _) (xs.length + 2) (bv (xs ++ [201, 202])) rfl (by rw [bv_append]; rfl) (by omega) (by unfold maxLen; omega) hg2.size ?_; intro A3 c3 w3 hown3 hg3 hat3; obtain ⟨g3, rfl, hge3, hlt3, hle3⟩ := hown3.form_pos (by omega))
    | fail)
  go_ret
  refine ⟨g3, c3, rfl, ⟨hle3, hown3⟩, ?_⟩
  exact below_own ((Below.refl _ _).grown hg2 (Nat.le_refl _) (by simp [blk])) hg3 hown2 hg2.size

set_option maxHeartbeats 400000 in
theorem kept39_eq (xs : List UInt8) (A : Option Addr) (g cap c base B : Nat) (w : World) (hown : Copy w base g cap xs) (hy : Rd w B A (bv xs)) (hn : xs.length + 2 ≤ 140737488355328) :
    Calls Try.prog 39 #[.slice (some ⟨g, 0, none⟩) xs.length cap, .slice A xs.length c] w fun e w' => e = .returned (.bool true) ∧ w = w' := by
  have c1 := conv_any hown.rd xs.length rfl cap
  have c2 := conv_any hy xs.length rfl c
  have hcap := hown.1
  have m1 : w.cell? ⟨g, xs.length, none⟩ = some (.int .u8 201) := by
    obtain ⟨a, ha, _, hc⟩ := hown.2.rd xs.length (.int .u8 201) (by simp [bv])
    obtain rfl := Option.some.inj ha
    simpa [Addr.add_lit] using hc
  have m2 : w.cell? ⟨g, xs.length + 1, none⟩ = some (.int .u8 202) := by
    obtain ⟨a, ha, _, hc⟩ := hown.2.rd (xs.length + 1) (.int .u8 202) (by simp [bv])
    obtain rfl := Option.some.inj ha
    simpa [Addr.add_lit] using hc
  clear hown hy
  go_enter Try.func39, Try.ntmps39
  go_wp2
  go_ret
  exact ⟨by simp, rfl⟩

theorem lent36_at (xs : List UInt8) (n : Nat) (hn : n = xs.length) (A : Option Addr) (c B : Nat) (w : World) (hx : Rd w B A (bv xs)) (hl : xs.length + 2 ≤ 140737488355328) :
    Calls Try.prog 36 #[.slice A n c] w (Lent w xs) := by
  subst hn
  exact lent36_any xs A c B w hx hl

theorem kept39_at (xs : List UInt8) (n m : Nat) (hn : n = xs.length) (hm : m = xs.length) (A : Option Addr) (g cap c base B : Nat) (w : World) (hown : Copy w base g cap xs) (hy : Rd w B A (bv xs)) (hl : xs.length + 2 ≤ 140737488355328) :
    Calls Try.prog 39 #[.slice (some ⟨g, 0, none⟩) n cap, .slice A m c] w fun e w' => e = .returned (.bool true) ∧ w = w' := by
  subst hn hm
  exact kept39_eq xs A g cap c base B w hown hy hl

def mOr (o : Option Msg) : Msg := o.getD ⟨0, ⟨#[]⟩, 0, 0, 0, 0, ⟨#[]⟩⟩
theorem outV_or (o : Option Msg) : outV o = msgV (mOr o) := by
  cases o <;> rfl
/-- The same, with a message's parts in sight. -/
def DecT (w : World) (kd : Int) (nm : ByteArray) (ve fr no er : Int) (tx : ByteArray) (N E : Int) (e : Ending) (w' : World) : Prop :=
  Below w.heap.size w w' ∧ e = .returned (.tuple #[.agg #[.int .i64 kd, .string nm, .int .i64 ve, .int .i64 fr, .int .i64 no, .int .i64 er, .string tx], .int .i64 N, .int .i64 E])
theorem dec_tri {w : World} {t : Option Msg × Int × Int} {e : Ending} {w' : World} (h : DecO w t e w') : DecT w (mOr t.1).kind (mOr t.1).name (mOr t.1).version (mOr t.1).frm (mOr t.1).nonce (mOr t.1).err (mOr t.1).text t.2.1 t.2.2 e w' := by
  refine ⟨h.1, ?_⟩
  rw [h.2, outV_or]
  rfl
theorem dec_both (b : List UInt8) (hl : b.length ≤ 140737488351232) : ∃ (kd : Int) (nm : ByteArray) (ve fr no er : Int) (tx : ByteArray) (N E : Int),
    (∀ (n : Nat) (_ : n = b.length) (A : Option Addr) (c : Nat) (_ : A = none → c = 0) (_ : n ≤ c) (w : World) (_ : Rd w w.heap.size A (bv b)), Calls Try.prog 37 #[.slice A n c] w (DecT w kd nm ve fr no er tx N E)) ∧
    (∀ (n : Nat) (_ : n = b.length) (A : Option Addr) (c : Nat) (_ : n ≤ c) (w : World) (_ : Rd w w.heap.size A (bv b)), Calls Try.prog 38 #[.slice A n c] w (DecT w kd nm ve fr no er tx N E)) :=
  ⟨_, _, _, _, _, _, _, _, _, fun n hn A c hA hc w hr => (decode_any b n hn A c hA hc w hr (by omega)).mono fun _ _ h => dec_tri h, fun n hn A c hc w hr => (rdecode_any b n hn A c hc w hr (by omega)).mono fun _ _ h => dec_tri h⟩
theorem add1 (x : UInt8) : ((x + 1 : UInt8).toNat : Int) = ((x.toNat : Int) + 1) % 256 := by
  rw [UInt8.toNat_add]
  simp

set_option maxRecDepth 100000 in
set_option maxHeartbeats 2000000 in
theorem framesReads_any (p : List UInt8) (A : Option Addr) (k B : Nat) (w : World) (hx : Rd w B A (bv p)) (hl : p.length ≤ 140737488351232) :
    Calls Try.prog 11 #[.slice A p.length k] w fun e w' => e = .returned (.bool true) ∧ Below w.heap.size w w' := by
  go_enter Try.func11, Try.ntmps11
  go_wp2_with (first
    | (go_at_call 36; refine (lent36_any p A k B w hx (by omega)).mono ?_; rintro e w1 ⟨g, cap, rfl, hcp, hb1⟩)
    | fail)
  have hcap := hcp.1
  go_loopw [4] (fun i wr => ∃ (t : Nat) (zs : List UInt8), t ≤ 2 ∧ i = .int .i64 t ∧ Hid (zs.length = p.length) ∧ Copy wr w.heap.size g cap zs ∧ Below w.heap.size w wr) (fun i _ => 2 - (intOf i).toNat)
  case atStart => exact ⟨0, p, by omega, rfl, rfl, hcp, hb1⟩
  case round =>
    obtain ⟨t, zs, ht, rfl, hzl, hcr, hbr⟩ := hrel
    clear hcp hb1
    by_cases hlt : t < 2
    · have hlz : zs.length ≤ 140737488351232 := by rw [hzl.out]; exact hl
      have hwr := hbr.size
      obtain ⟨kd, nm, ve, fr, no, er, tx, NN, EE, P1, P2⟩ := dec_both zs hlz
      have HP1 := Lib.hid (P1 p.length hzl.out.symm)
      have HP2 := Lib.hid (P2 zs.length rfl)
      clear P1 P2
      go_wp2_with (first
        | (go_at_call 36; refine (lent36_at zs _ hzl.out.symm _ cap wr.heap.size wr hcr.rd (by omega)).mono ?_; rintro e w2 ⟨g2, cap2, rfl, hc2, hb2⟩; have hg2 := hcr.below hb2 (Nat.le_refl _); have hcap2 := hc2.1)
        | (go_at_call 37; refine (HP1.out _ cap (by intro h; cases h) (by omega) w2 hg2.rd).mono ?_; rintro e w3 ⟨hb3, rfl⟩; have hg3 := hg2.below hb3 (Nat.le_refl _); have hc3 := hc2.below hb3 (Nat.le_refl _); have nb3 := one_box w3 w3.heap.size (Nat.le_refl _) (.cells #[.int .i64 kd, .string nm, .int .i64 ve, .int .i64 fr, .int .i64 no, .int .i64 er, .string tx] 60) 0)
        | (go_at_call 38; refine (HP2.out _ cap2 (by omega) _ (hc3.below nb3 (Nat.le_refl _)).rd).mono ?_; rintro e w4 ⟨b4, rfl⟩; obtain ⟨hz4, hb4, hs4⟩ := box1_at (k := 0) b4; have hg4 := hg3.below hb4 (Nat.le_refl _); have hc4 := hc3.below hb4 (Nat.le_refl _); have y0 := cellAt hz4 (j := 0) rfl; have u0 : (w4.alloc (.cells #[.int .i64 kd, .string nm, .int .i64 ve, .int .i64 fr, .int .i64 no, .int .i64 er, .string tx] 57)).cell? ⟨w3.heap.size, 0, none⟩ = some (.int .i64 kd) := (World.cell?_alloc_some _ _ _ (by rw [y0]; rfl)).trans y0; have y1 := cellAt hz4 (j := 1) rfl; have u1 : (w4.alloc (.cells #[.int .i64 kd, .string nm, .int .i64 ve, .int .i64 fr, .int .i64 no, .int .i64 er, .string tx] 57)).cell? ⟨w3.heap.size, 1, none⟩ = some (.string nm) := (World.cell?_alloc_some _ _ _ (by rw [y1]; rfl)).trans y1; have y2 := cellAt hz4 (j := 2) rfl; have u2 : (w4.alloc (.cells #[.int .i64 kd, .string nm, .int .i64 ve, .int .i64 fr, .int .i64 no, .int .i64 er, .string tx] 57)).cell? ⟨w3.heap.size, 2, none⟩ = some (.int .i64 ve) := (World.cell?_alloc_some _ _ _ (by rw [y2]; rfl)).trans y2; have y3 := cellAt hz4 (j := 3) rfl; have u3 : (w4.alloc (.cells #[.int .i64 kd, .string nm, .int .i64 ve, .int .i64 fr, .int .i64 no, .int .i64 er, .string tx] 57)).cell? ⟨w3.heap.size, 3, none⟩ = some (.int .i64 fr) := (World.cell?_alloc_some _ _ _ (by rw [y3]; rfl)).trans y3; have y4 := cellAt hz4 (j := 4) rfl; have u4 : (w4.alloc (.cells #[.int .i64 kd, .string nm, .int .i64 ve, .int .i64 fr, .int .i64 no, .int .i64 er, .string tx] 57)).cell? ⟨w3.heap.size, 4, none⟩ = some (.int .i64 no) := (World.cell?_alloc_some _ _ _ (by rw [y4]; rfl)).trans y4; have y5 := cellAt hz4 (j := 5) rfl; have u5 : (w4.alloc (.cells #[.int .i64 kd, .string nm, .int .i64 ve, .int .i64 fr, .int .i64 no, .int .i64 er, .string tx] 57)).cell? ⟨w3.heap.size, 5, none⟩ = some (.int .i64 er) := (World.cell?_alloc_some _ _ _ (by rw [y5]; rfl)).trans y5; have y6 := cellAt hz4 (j := 6) rfl; have u6 : (w4.alloc (.cells #[.int .i64 kd, .string nm, .int .i64 ve, .int .i64 fr, .int .i64 no, .int .i64 er, .string tx] 57)).cell? ⟨w3.heap.size, 6, none⟩ = some (.string tx) := (World.cell?_alloc_some _ _ _ (by rw [y6]; rfl)).trans y6; have n0 : (w4.alloc (.cells #[.int .i64 kd, .string nm, .int .i64 ve, .int .i64 fr, .int .i64 no, .int .i64 er, .string tx] 57)).cell? ⟨w4.heap.size, 0, none⟩ = some (.int .i64 kd) := new_cell rfl rfl; have n1 : (w4.alloc (.cells #[.int .i64 kd, .string nm, .int .i64 ve, .int .i64 fr, .int .i64 no, .int .i64 er, .string tx] 57)).cell? ⟨w4.heap.size, 1, none⟩ = some (.string nm) := new_cell rfl rfl; have n2 : (w4.alloc (.cells #[.int .i64 kd, .string nm, .int .i64 ve, .int .i64 fr, .int .i64 no, .int .i64 er, .string tx] 57)).cell? ⟨w4.heap.size, 2, none⟩ = some (.int .i64 ve) := new_cell rfl rfl; have n3 : (w4.alloc (.cells #[.int .i64 kd, .string nm, .int .i64 ve, .int .i64 fr, .int .i64 no, .int .i64 er, .string tx] 57)).cell? ⟨w4.heap.size, 3, none⟩ = some (.int .i64 fr) := new_cell rfl rfl; have n4 : (w4.alloc (.cells #[.int .i64 kd, .string nm, .int .i64 ve, .int .i64 fr, .int .i64 no, .int .i64 er, .string tx] 57)).cell? ⟨w4.heap.size, 4, none⟩ = some (.int .i64 no) := new_cell rfl rfl; have n5 : (w4.alloc (.cells #[.int .i64 kd, .string nm, .int .i64 ve, .int .i64 fr, .int .i64 no, .int .i64 er, .string tx] 57)).cell? ⟨w4.heap.size, 5, none⟩ = some (.int .i64 er) := new_cell rfl rfl; have n6 : (w4.alloc (.cells #[.int .i64 kd, .string nm, .int .i64 ve, .int .i64 fr, .int .i64 no, .int .i64 er, .string tx] 57)).cell? ⟨w4.heap.size, 6, none⟩ = some (.string tx) := new_cell rfl rfl; have hb24 := hb3.trans (hb4.mono hb3.size); clear b4)
        | fail)
      have HK := Lib.hid (fun (W' : World) (h : Below w4.heap.size w4 W') => kept39_at zs p.length zs.length hzl.out.symm rfl (some ⟨g2, 0, none⟩) g cap cap2 w.heap.size w4.heap.size W' (hg4.below h (Nat.le_refl _)) (hc4.rd.below h) (by omega))
      have hb4w : Below w.heap.size w w4 := hbr.trans ((hb2.trans (hb24.mono hb2.size)).mono hwr)
      have hg4' := Lib.hid hg4
      have hz4' := Lib.hid hz4
      clear hz4 hg2 hg3 hg4 hc2 hc3 hc4 nb3 hb2 hb3 hb4 hb24 hcr hbr y0 y1 y2 y3 y4 y5 y6
      go_region_held3 (fun w' => w'.cell? ⟨w3.heap.size, 0, none⟩ = some (.int .i64 kd) ∧ w'.cell? ⟨w3.heap.size, 1, none⟩ = some (.string nm) ∧ w'.cell? ⟨w3.heap.size, 2, none⟩ = some (.int .i64 ve) ∧ w'.cell? ⟨w3.heap.size, 3, none⟩ = some (.int .i64 fr) ∧ w'.cell? ⟨w3.heap.size, 4, none⟩ = some (.int .i64 no) ∧ w'.cell? ⟨w3.heap.size, 5, none⟩ = some (.int .i64 er) ∧ w'.cell? ⟨w3.heap.size, 6, none⟩ = some (.string tx) ∧ w'.cell? ⟨w4.heap.size, 0, none⟩ = some (.int .i64 kd) ∧ w'.cell? ⟨w4.heap.size, 1, none⟩ = some (.string nm) ∧ w'.cell? ⟨w4.heap.size, 2, none⟩ = some (.int .i64 ve) ∧ w'.cell? ⟨w4.heap.size, 3, none⟩ = some (.int .i64 fr) ∧ w'.cell? ⟨w4.heap.size, 4, none⟩ = some (.int .i64 no) ∧ w'.cell? ⟨w4.heap.size, 5, none⟩ = some (.int .i64 er) ∧ w'.cell? ⟨w4.heap.size, 6, none⟩ = some (.string tx))
        (first
          | go_keep
          | exact ⟨u0, u1, u2, u3, u4, u5, u6, n0, n1, n2, n3, n4, n5, n6⟩
          | exact ⟨x0, x1, x2, x3, x4, x5, x6, m0, m1, m2, m3, m4, m5, m6⟩)
        (first
          | (go_at_call 34; go_loud (refine (own_any kd nm tx ve fr no er _).mono ?_); rintro e w5 ⟨rfl, b5⟩; go_loud (have hm5 := (b5.block w4.heap.size (by simp)).trans (new_at w4 _); have hb45 : Below w4.heap.size w4 w5 := (((Below.refl w4.heap.size w4).alloc (Nat.le_refl _) _).drew).trans (b5.mono (by simp)); have hz5 := (hb45.block w3.heap.size (by omega)).trans hz4'.out; have x0 : w5.cell? ⟨w3.heap.size, 0, none⟩ = some (.int .i64 kd) := cellAt hz5 (j := 0) rfl; have m0 : w5.cell? ⟨w4.heap.size, 0, none⟩ = some (.int .i64 kd) := cellAt hm5 (j := 0) rfl; have x1 : w5.cell? ⟨w3.heap.size, 1, none⟩ = some (.string nm) := cellAt hz5 (j := 1) rfl; have m1 : w5.cell? ⟨w4.heap.size, 1, none⟩ = some (.string nm) := cellAt hm5 (j := 1) rfl; have x2 : w5.cell? ⟨w3.heap.size, 2, none⟩ = some (.int .i64 ve) := cellAt hz5 (j := 2) rfl; have m2 : w5.cell? ⟨w4.heap.size, 2, none⟩ = some (.int .i64 ve) := cellAt hm5 (j := 2) rfl; have x3 : w5.cell? ⟨w3.heap.size, 3, none⟩ = some (.int .i64 fr) := cellAt hz5 (j := 3) rfl; have m3 : w5.cell? ⟨w4.heap.size, 3, none⟩ = some (.int .i64 fr) := cellAt hm5 (j := 3) rfl; have x4 : w5.cell? ⟨w3.heap.size, 4, none⟩ = some (.int .i64 no) := cellAt hz5 (j := 4) rfl; have m4 : w5.cell? ⟨w4.heap.size, 4, none⟩ = some (.int .i64 no) := cellAt hm5 (j := 4) rfl; have x5 : w5.cell? ⟨w3.heap.size, 5, none⟩ = some (.int .i64 er) := cellAt hz5 (j := 5) rfl; have m5 : w5.cell? ⟨w4.heap.size, 5, none⟩ = some (.int .i64 er) := cellAt hm5 (j := 5) rfl; have x6 : w5.cell? ⟨w3.heap.size, 6, none⟩ = some (.string tx) := cellAt hz5 (j := 6) rfl; have m6 : w5.cell? ⟨w4.heap.size, 6, none⟩ = some (.string tx) := cellAt hm5 (j := 6) rfl; clear b5 hz5 hm5))
          | (go_at_call 39; refine (HK.out _ hb45).mono ?_; rintro e w9 ⟨rfl, rfl⟩))
      have hb5 : Below w.heap.size w w5 := hb4w.trans (hb45.mono hb4w.size)
      have hg5 := hg4'.out.below hb45 (Nat.le_refl _)
      clear x0 x1 x2 x3 x4 x5 x6 m0 m1 m2 m3 m4 m5 m6 u0 u1 u2 u3 u4 u5 u6 n0 n1 n2 n3 n4 n5 n6
      by_cases h8 : 8 < zs.length
      · have h8p : 8 < p.length := by rw [← hzl.out]; exact h8
        have hcell := hg5.cell (k := 8) (List.getElem?_eq_getElem h8)
        have hfr := hg5.free 8
        have hst := hg5.store (k := 8) h8 (zs[8] + 1)
        rw [add1] at hst
        have HST := Lib.hid hst
        clear hst
        have hub := u8_lt zs[8]
        go_wp2
        go_roundw
        case rel => exact ⟨t + 1, zs.set 8 (zs[8] + 1), by omega, by go_num, by rw [Hid, List.length_set]; exact hzl.out, HST.out, hb5.setCell (p := ⟨g, 8, none⟩) hg5.base_ge _⟩
        case measure => simp [intOf]; omega
      · have h8p : ¬ 8 < p.length := by rw [← hzl.out]; exact h8
        go_wp2
        go_roundw
        case rel => exact ⟨t + 1, zs, by omega, by go_num, hzl, hg5, hb5⟩
        case measure => simp [intOf]; omega
    · obtain rfl : t = 2 := by omega
      go_wp2
      go_ret
      exact ⟨rfl, hbr⟩

end Go.Proofs.Ytbhjcfhpabnadaa
