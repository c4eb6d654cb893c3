/-
  The walk of SumFrames.
-/
import Derived.Test.YtbhjcfhpabnadaaKept
namespace Go.Proofs.Ytbhjcfhpabnadaa
open Go.RowKit

def frO (p : List UInt8) : List UInt8 := if p.length ≤ 131072 then frame p else []
def frE (p : List UInt8) : Int := if p.length ≤ 131072 then 0 else 3

/-- A list of bytes in new memory, and an errno. -/
def PairOut (w : World) (F : List UInt8) (E : Int) (e : Ending) (w' : World) : Prop :=
  ∃ A c, e = .returned (.tuple #[.slice A F.length c, .int .i64 E]) ∧ Own w' w.heap.size 5 1 A F.length c (bv F) ∧ Below w.heap.size w w'

theorem pair_of {w : World} {p : List UInt8} {e : Ending} {w' : World} (h : FrameOut w p e w') : PairOut w (frO p) (frE p) e w' := by
  rcases h with ⟨hl, A, c, rfl, ho, hb⟩ | ⟨hl, rfl, rfl⟩
  · refine ⟨A, c, ?_, ?_, hb⟩
    · simp only [frO, frE, if_pos hl, frame_len]
    · simp only [frO, if_pos hl, frame_len]
      exact ho
  · refine ⟨none, 0, ?_, ?_, Below.refl _ _⟩
    · simp only [frO, frE, if_neg (show ¬ p.length ≤ 131072 by omega)]
      rfl
    · simp only [frO, if_neg (show ¬ p.length ≤ 131072 by omega)]
      exact Own.nil_ _ _ _ _

/-- The first k bytes raised by 91. -/
def inc (zs : List UInt8) (k : Nat) : List UInt8 := (zs.take k).map (· + 91) ++ zs.drop k
theorem inc_zero (zs : List UInt8) : inc zs 0 = zs := by simp [inc]
theorem inc_len (zs : List UInt8) {k : Nat} (h : k ≤ zs.length) : (inc zs k).length = zs.length := by
  simp [inc]
  omega
theorem inc_get (zs : List UInt8) {k : Nat} (h : k < zs.length) : (inc zs k)[k]? = some zs[k] := by
  unfold inc
  rw [List.getElem?_append_right (by simp; omega), List.getElem?_drop]
  rw [show k + (k - ((zs.take k).map (· + 91)).length) = k by simp; omega]
  exact List.getElem?_eq_getElem h
theorem inc_succ (zs : List UInt8) {k : Nat} (h : k < zs.length) : (inc zs k).set k (zs[k] + 91) = inc zs (k + 1) := by
  unfold inc
  rw [List.set_append_right _ _ (by simp; omega), List.take_succ_eq_append_getElem h, List.map_append, List.append_assoc]
  congr 1
  rw [show k - ((zs.take k).map (· + 91)).length = 0 by simp; omega, List.drop_eq_getElem_cons h]
  rfl

theorem add91 (x : UInt8) : ((x + 91 : UInt8).toNat : Int) = ((x.toNat : Int) + 91) % 256 := by
  rw [UInt8.toNat_add]
  simp

theorem lent_at (xs : List UInt8) (n : Nat) (hn : n = xs.length) (A : Option Addr) (c B : Nat) (w : World) (hx : Rd w B A (bv xs)) (hl : xs.length + 2 ≤ 140737488355328) :
    Calls Try.prog 17 #[.slice A n c] w (Lent w xs) := by
  subst hn
  exact lent_any xs A c B w hx hl
theorem frame_at (xs : List UInt8) (n : Nat) (hn : n = xs.length) (A : Option Addr) (c B : Nat) (w : World) (hx : Rd w B A (bv xs)) (hB : B ≤ w.heap.size) (hl : xs.length ≤ 9223372036854775807) :
    Calls Try.prog 21 #[.slice A n c] w (PairOut w (frO xs) (frE xs)) := by
  subst hn
  exact (frame_any xs A c B w hx hB hl).mono fun _ _ h => pair_of h
theorem rframe_at (xs : List UInt8) (n : Nat) (hn : n = xs.length) (A : Option Addr) (c B : Nat) (w : World) (hx : Rd w B A (bv xs)) (hB : B ≤ w.heap.size) (hl : xs.length ≤ 9223372036854775807) :
    Calls Try.prog 22 #[.slice A n c] w (PairOut w (frO xs) (frE xs)) := by
  subst hn
  exact (rframe_any xs A c B w hx hB hl).mono fun _ _ h => pair_of h
theorem kept_at (xs : List UInt8) (n m : Nat) (hn : n = xs.length) (hm : m = xs.length) (A : Option Addr) (g cap c base B : Nat) (w : World) (hown : Copy w base g cap xs) (hy : Rd w B A (bv xs)) (hl : xs.length + 2 ≤ 140737488355328) :
    Calls Try.prog 20 #[.slice (some ⟨g, 0, none⟩) n cap, .slice A m c] w fun e w' => e = .returned (.bool true) ∧ w = w' := by
  subst hn hm
  exact kept_eq xs A g cap c base B w hown hy hl

/-- A byte of a copy is written. -/
theorem Copy.store {w : World} {base g cap k : Nat} {xs : List UInt8} (h : Copy w base g cap xs) (hk : k < xs.length) (b : UInt8) : Copy (w.setCell ⟨g, k, none⟩ (.int .u8 (b.toNat : Int))) base g cap (xs.set k b) := by
  refine ⟨by simpa using h.1, ?_⟩
  have := World.ownsRow.stored h.2 k (.int .u8 (b.toNat : Int))
  unfold Own
  rw [List.length_set]
  have e : bv (xs.set k b ++ [201, 202]) = (bv (xs ++ [201, 202])).set k (.int .u8 (b.toNat : Int)) := by
    rw [← List.set_append_left _ _ hk]
    simp [bv, List.map_set]
  rw [e]
  exact this.1

theorem Copy.cell {w : World} {base g cap k : Nat} {xs : List UInt8} {b : UInt8} (h : Copy w base g cap xs) (hk : xs[k]? = some b) : w.cell? ⟨g, k, none⟩ = some (.int .u8 (b.toNat : Int)) := by
  obtain ⟨hl, rfl⟩ := List.getElem?_eq_some_iff.1 hk
  obtain ⟨a, ha, _, hc⟩ := h.rd.byte hl
  obtain rfl := Option.some.inj ha
  rw [Addr.add_lit, Nat.zero_add] at hc
  exact hc
theorem Copy.free {w : World} {base g cap : Nat} {xs : List UInt8} (h : Copy w base g cap xs) (k : Nat) : w.frozen? ⟨g, k, none⟩ = false := World.ownsRow.frozenAt h.2 k
theorem Copy.below {w w' : World} {base g cap B : Nat} {xs : List UInt8} (h : Copy w base g cap xs) (hb : Below B w w') (hB : w.heap.size ≤ B) : Copy w' base g cap xs := ⟨h.1, h.2.below hb hB⟩
theorem Copy.base_ge {w : World} {base g cap : Nat} {xs : List UInt8} (h : Copy w base g cap xs) : base ≤ g := (h.2.blk_ge (g := g) rfl).1

set_option maxRecDepth 100000 in
set_option maxHeartbeats 2000000 in
theorem sumFrames_any (p : List UInt8) (c : Nat) (A : Option Addr) (k B : Nat) (w : World) (hx : Rd w B A (bv p)) (hc : c < 4294967296) (hl : p.length ≤ 1048576) :
    Calls Try.prog 4 #[.slice A p.length k, .int .u32 c] w fun e w' => e = .returned (.bool true) ∧ Below w.heap.size w w' := by
  go_enter Try.func4, Try.ntmps4
  go_wp2_with (first
    | (go_at_call 17; refine (lent_any p A k B w hx (by omega)).mono ?_; rintro e w1 ⟨g, cap, rfl, hcp, hb1⟩)
    | fail)
  have hcap := hcp.1
  go_loopw [6] (fun i wr => ∃ (t : Nat) (zs : List UInt8), t ≤ 2 ∧ i = .int .i64 t ∧ Hid (zs.length = p.length) ∧ Copy wr w.heap.size g cap zs ∧ Below w.heap.size w wr) (fun i _ => 2 - (intOf i).toNat)
  case atStart => exact ⟨0, p, by omega, rfl, rfl, hcp, hb1⟩
  case round =>
    obtain ⟨t, zs, ht, rfl, hzl, hcr, hbr⟩ := hrel
    clear hcp hb1
    by_cases hlt : t < 2
    · have tok1 : True := trivial
      have tok2 : True := trivial
      have hlz : zs.length ≤ 1048576 := by rw [hzl.out]; exact hl
      go_wp2_with (first
        | (go_at_call 17; refine (lent_at zs _ hzl.out.symm _ cap wr.heap.size wr hcr.rd (by omega)).mono ?_; rintro e w2 ⟨g2, cap2, rfl, hc2, hb2⟩; have hg2 := hcr.below hb2 (Nat.le_refl _))
        | (go_at_call 21; refine (frame_at zs _ hzl.out.symm _ cap w2.heap.size w2 hg2.rd (Nat.le_refl _) (by omega)).mono ?_; rintro e w3 ⟨F1, k1, rfl, hF1, hb3⟩; have hg3 := hg2.below hb3 (Nat.le_refl _); have hc3 := hc2.below hb3 (Nat.le_refl _))
        | (go_at_call 22; refine (rframe_at zs zs.length rfl _ cap2 w3.heap.size w3 hc3.rd (Nat.le_refl _) (by omega)).mono ?_; rintro e w4 ⟨F2, k2, rfl, hF2, hb4⟩; have hg4 := hg3.below hb4 (Nat.le_refl _); have hc4 := hc3.below hb4 (Nat.le_refl _); have hF4 := hF1.below hb4 (Nat.le_refl _))
        | (go_at_call 23; refine (crc_at zs _ hzl.out.symm _ cap w4.heap.size w4 hg4.rd (by omega)).mono ?_; rintro e w9 ⟨rfl, rfl⟩)
        | (go_at_call 24; have _t := tok1; refine (sum_at 0 zs zs.length rfl _ cap2 w4.heap.size w4 hc4.rd (Nat.le_refl _) (by omega) (by omega)).mono ?_; rintro e w5 ⟨rfl, hb5⟩; clear tok1 _t; have hg5 := hg4.below hb5 (Nat.le_refl _); have hc5 := hc4.below hb5 (Nat.le_refl _); have hF5 := hF4.below hb5 (Nat.le_refl _); have hG5 := hF2.below hb5 (Nat.le_refl _))
        | (go_at_call 25; refine (more_at c zs _ hzl.out.symm _ cap w5.heap.size w5 hg5.rd hc (by omega)).mono ?_; rintro e w9 ⟨rfl, rfl⟩)
        | (go_at_call 24; refine (sum_at c zs zs.length rfl _ cap2 w5.heap.size w5 hc5.rd (Nat.le_refl _) hc (by omega)).mono ?_; rintro e w6 ⟨rfl, hb6⟩; have hg6 := hg5.below hb6 (Nat.le_refl _); have hc6 := hc5.below hb6 (Nat.le_refl _); have cv1 := conv_any (hF5.below hb6 (Nat.le_refl _)).rd (frO zs).length rfl k1; have cv2 := conv_any (hG5.below hb6 (Nat.le_refl _)).rd (frO zs).length rfl k2)
        | (go_at_call 20; refine (kept_at zs _ zs.length hzl.out.symm rfl _ g cap cap2 w.heap.size w6.heap.size w6 hg6 hc6.rd (by omega)).mono ?_; rintro e w9 ⟨rfl, rfl⟩)
        | fail)
      have hb16 : Below w.heap.size w w6 := hbr.trans ((hb2.trans ((hb3.trans ((hb4.trans ((hb5.trans (hb6.mono hb5.size)).mono hb4.size)).mono hb3.size)).mono hb2.size)).mono hbr.size)
      clear hb2 hb3 hb4 hb5 hb6 hF1 hF2 hF4 hF5 hG5 cv1 cv2 hg2 hg3 hg4 hg5 hc2 hc3 hc4 hc5 hc6 hcr hbr
      go_loopw [12] (fun i wr => ∃ (j : Nat), j ≤ p.length ∧ i = .int .i64 j ∧ Copy wr w.heap.size g cap (inc zs j) ∧ Below w.heap.size w wr) (fun i _ => p.length - (intOf i).toNat)
      case atStart => exact ⟨0, Nat.zero_le _, rfl, by rw [inc_zero]; exact hg6, hb16⟩
      case round =>
        obtain ⟨j, hj, rfl, hcj, hbj⟩ := hrel
        clear hg6 hb16
        by_cases hltj : j < p.length
        · have hjz : j < zs.length := by rw [hzl.out]; exact hltj
          have hil := inc_len zs (Nat.le_of_lt hjz)
          have hcell := hcj.cell (inc_get zs hjz)
          have hfr := hcj.free j
          have hst := hcj.store (k := j) (by omega) (zs[j] + 91)
          rw [inc_succ zs hjz, add91] at hst
          have HST := Lib.hid hst
          clear hst hil
          have hub := u8_lt zs[j]
          go_wp2
          go_roundw
          case rel => exact ⟨j + 1, by omega, by go_num, HST.out, hbj.setCell (p := ⟨g, j, none⟩) hcj.base_ge _⟩
          case measure => simp [intOf]; omega
        · obtain rfl : j = p.length := by omega
          go_wp2
          go_roundw
          case rel => exact ⟨t + 1, inc zs p.length, by omega, by go_num, by rw [Hid, inc_len zs (by rw [hzl.out]; exact Nat.le_refl _)]; exact hzl.out, hcj, hbj⟩
          case measure => simp [intOf]; omega
    · obtain rfl : t = 2 := by omega
      go_wp2
      go_ret
      exact ⟨rfl, hbr⟩

end Go.Proofs.Ytbhjcfhpabnadaa
