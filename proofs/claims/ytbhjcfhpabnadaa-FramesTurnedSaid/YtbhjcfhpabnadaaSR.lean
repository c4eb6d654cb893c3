/-
  The walk of SumReads.
-/
import Derived.Test.YtbhjcfhpabnadaaRNextW
namespace Go.Proofs.Ytbhjcfhpabnadaa
open Go.RowKit

def nxF (o : Option (List UInt8)) : List UInt8 := o.getD []
def nxN (o : Option (List UInt8)) : Int := match o with | some p => ((8 + p.length : Nat) : Int) | none => 0
def nxE (o : Option (List UInt8)) : Int := match o with | some _ => 0 | none => 10

/-- A list of bytes in new memory, a number and an errno. -/
def TriOut (w : World) (F : List UInt8) (N E : Int) (e : Ending) (w' : World) : Prop :=
  ∃ A c, e = .returned (.tuple #[.slice A F.length c, .int .i64 N, .int .i64 E]) ∧ Own w' w.heap.size 5 1 A F.length c (bv F) ∧ Below w.heap.size w w'

theorem tri_of {w : World} {o : Option (List UInt8)} {e : Ending} {w' : World} (h : NextOut w o e w') : TriOut w (nxF o) (nxN o) (nxE o) e w' := by
  obtain ⟨hb, h⟩ := h
  cases o with
  | none =>
    subst h
    exact ⟨none, 0, rfl, Own.nil_ _ _ _ _, hb⟩
  | some p =>
    obtain ⟨A, c, rfl, ho⟩ := h
    exact ⟨A, c, rfl, ho, hb⟩

theorem nextS_len {b p : List UInt8} (h : nextS b = some p) : p.length ≤ 131072 ∧ 8 + p.length ≤ b.length := by
  by_cases h8 : b.length < 8
  · rw [nextS_short h8] at h
    cases h
  · obtain ⟨x0, x1, x2, x3, x4, x5, x6, x7, r, rfl⟩ := long_form (b := b) (by omega)
    simp only [nextS] at h
    split at h
    · rename_i hc
      injection h with h
      subst h
      simp
      omega
    · cases h

theorem nxF_len (b : List UInt8) : (nxF (nextS b)).length ≤ 131072 := by
  cases h : nextS b with
  | none => simp [nxF]
  | some p => exact (nextS_len h).1

theorem own_some {w : World} {base n c : Nat} {A : Option Addr} {F : List UInt8} (h : Own w base 5 1 A n c (bv F)) (hn : 0 < F.length) : ∃ g, A = some ⟨g, 0, none⟩ ∧ base ≤ g := by
  rcases h.form with ⟨rfl, h0, _⟩ | ⟨g, rfl, hb, hlt, hc⟩
  · have := h.len
    simp [bv] at this
    omega
  · exact ⟨g, rfl, hb⟩

theorem own_store {w : World} {base n c g k : Nat} {F : List UInt8} (h : Own w base 5 1 (some ⟨g, 0, none⟩) n c (bv F)) (b : UInt8) : Own (w.setCell ⟨g, k, none⟩ (.int .u8 (b.toNat : Int))) base 5 1 (some ⟨g, 0, none⟩) n c (bv (F.set k b)) := by
  have := World.ownsRow.stored h k (.int .u8 (b.toNat : Int))
  have e : bv (F.set k b) = (bv F).set k (.int .u8 (b.toNat : Int)) := by simp [bv, List.map_set]
  unfold Own
  rw [e]
  exact this.1

theorem own_cell {w : World} {base n c g k : Nat} {F : List UInt8} {b : UInt8} (h : Own w base 5 1 (some ⟨g, 0, none⟩) n c (bv F)) (hk : F[k]? = some b) : w.cell? ⟨g, k, none⟩ = some (.int .u8 (b.toNat : Int)) := by
  obtain ⟨hl, rfl⟩ := List.getElem?_eq_some_iff.1 hk
  obtain ⟨a, ha, _, hc⟩ := h.rd.byte hl
  obtain rfl := Option.some.inj ha
  rw [Addr.add_lit, Nat.zero_add] at hc
  exact hc
theorem own_free {w : World} {base n c g : Nat} {F : List UInt8} (h : Own w base 5 1 (some ⟨g, 0, none⟩) n c (bv F)) (k : Nat) : w.frozen? ⟨g, k, none⟩ = false := World.ownsRow.frozenAt h k

theorem pnext_at (b : List UInt8) (N : Nat) (hN : N = b.length) (A : Option Addr) (k B : Nat) (w : World) (hx : Rd w B A (bv b)) (hB : B ≤ w.heap.size) (hk : N ≤ k) (hl : b.length ≤ 4294967303) :
    Calls Try.prog 18 #[.slice A N k] w (TriOut w (nxF (nextS b)) (nxN (nextS b)) (nxE (nextS b))) :=
  (pnext_any b N hN A k B w hx hB hk hl).mono fun _ _ h => tri_of h
theorem rnext_at (b : List UInt8) (N : Nat) (hN : N = b.length) (A : Option Addr) (k B : Nat) (w : World) (hx : Rd w B A (bv b)) (hB : B ≤ w.heap.size) (hk : N ≤ k) (hl : b.length ≤ 4294967303) :
    Calls Try.prog 19 #[.slice A N k] w (TriOut w (nxF (nextS b)) (nxN (nextS b)) (nxE (nextS b))) :=
  (rnext_any b N hN A k B w hx hB hk hl).mono fun _ _ h => tri_of h

set_option maxRecDepth 100000 in
set_option maxHeartbeats 2000000 in
theorem sumReads_any (p : List UInt8) (A : Option Addr) (k B : Nat) (w : World) (hx : Rd w B A (bv p)) (hl : p.length ≤ 1048576) :
    Calls Try.prog 3 #[.slice A p.length k] w fun e w' => e = .returned (.bool true) ∧ Below w.heap.size w w' := by
  go_enter Try.func3, Try.ntmps3
  go_wp2_with (first
    | (go_at_call 17; refine (lent_any p A k B w hx (by omega)).mono ?_; rintro e w1 ⟨g, cap, rfl, hcp, hb1⟩)
    | fail)
  have hcap := hcp.1
  go_loopw [4] (fun i wr => ∃ (t : Nat) (zs : List UInt8), t ≤ 2 ∧ i = .int .i64 t ∧ Hid (zs.length = p.length) ∧ Copy wr w.heap.size g cap zs ∧ Below w.heap.size w wr) (fun i _ => 2 - (intOf i).toNat)
  case atStart => exact ⟨0, p, by omega, rfl, rfl, hcp, hb1⟩
  case round =>
    obtain ⟨t, zs, ht, rfl, hzl, hcr, hbr⟩ := hrel
    clear hcp hb1
    by_cases hlt : t < 2
    · have tok1 : True := trivial
      have hlz : zs.length ≤ 1048576 := by rw [hzl.out]; exact hl
      have hwr := hbr.size
      have hnf := nxF_len zs
      obtain ⟨F, hF⟩ : ∃ F, F = nxF (nextS zs) := ⟨_, rfl⟩
      obtain ⟨NN, hNN⟩ : ∃ NN, NN = nxN (nextS zs) := ⟨_, rfl⟩
      obtain ⟨EE, hEE⟩ : ∃ EE, EE = nxE (nextS zs) := ⟨_, rfl⟩
      have P1 := pnext_at zs p.length hzl.out.symm
      have P2 := rnext_at zs zs.length rfl
      rw [← hF, ← hNN, ← hEE] at P1 P2
      rw [← hF] at hnf
      clear hF hNN hEE
      have HP1 := Lib.hid P1
      have HP2 := Lib.hid P2
      clear P1 P2
      go_wp2_with (first
        | (go_at_call 17; refine (lent_at zs _ hzl.out.symm _ cap wr.heap.size wr hcr.rd (by omega)).mono ?_; rintro e w2 ⟨g2, cap2, rfl, hc2, hb2⟩; have hg2 := hcr.below hb2 (Nat.le_refl _); have hcap2 := hc2.1)
        | (go_at_call 18; refine (HP1.out _ cap w2.heap.size w2 hg2.rd (Nat.le_refl _) (by omega) (by omega)).mono ?_; rintro e w3 ⟨F1, k1, rfl, hF1, hb3⟩; have hg3 := hg2.below hb3 (Nat.le_refl _); have hc3 := hc2.below hb3 (Nat.le_refl _))
        | (go_at_call 19; refine (HP2.out _ cap2 w3.heap.size w3 hc3.rd (Nat.le_refl _) (by omega) (by omega)).mono ?_; rintro e w4 ⟨F2, k2, rfl, hF2, hb4⟩; have hg4 := hg3.below hb4 (Nat.le_refl _); have hc4 := hc3.below hb4 (Nat.le_refl _); have hF4 := hF1.below hb4 (Nat.le_refl _); have cv1 := conv_any hF4.rd F.length rfl k1; have cv2 := conv_any hF2.rd F.length rfl k2)
        | (go_at_call 20; have _t := tok1; refine (kept_at zs _ zs.length hzl.out.symm rfl _ g cap cap2 w.heap.size w4.heap.size w4 hg4 hc4.rd (by omega)).mono ?_; rintro e w9 ⟨rfl, rfl⟩; clear tok1 _t)
        | fail)
      have hb24 : Below w2.heap.size w2 w4 := hb3.trans (hb4.mono hb3.size)
      have hbw2 : Below w.heap.size w w2 := hbr.trans (hb2.mono hwr)
      clear hb2 hb3 hb4 hF1 hF2 cv1 cv2 hg3 hg4 hc3 hc4 hcr hbr
      go_loopw [12] (fun i wr => ∃ (j : Nat), j ≤ F.length ∧ i = .int .i64 j ∧ Own wr w2.heap.size 5 1 F1 F.length k1 (bv (inc F j)) ∧ Below w2.heap.size w2 wr) (fun i _ => F.length - (intOf i).toNat)
      case atStart => exact ⟨0, Nat.zero_le _, rfl, by rw [inc_zero]; exact hF4, hb24⟩
      case round =>
        obtain ⟨j, hj, rfl, hcj, hbj⟩ := hrel
        clear hb24 hF4
        by_cases hltj : j < F.length
        · have hil := inc_len F (Nat.le_of_lt hltj)
          obtain ⟨gf, rfl, hgf⟩ := own_some hcj (by omega)
          have hcell := own_cell hcj (inc_get F hltj)
          have hfr := own_free hcj j
          have hst := own_store (k := j) hcj (F[j] + 91)
          rw [inc_succ F hltj, add91] at hst
          have HST := Lib.hid hst
          clear hst hil
          have hub := u8_lt F[j]
          go_wp2
          go_roundw
          case rel => exact ⟨j + 1, by omega, by go_num, HST.out, hbj.setCell (p := ⟨gf, j, none⟩) hgf _⟩
          case measure => simp [intOf]; omega
        · obtain rfl : j = F.length := by omega
          have hg5 := hg2.below hbj (Nat.le_refl _)
          have hc5 := hc2.below hbj (Nat.le_refl _)
          have hb5 : Below w.heap.size w wr := hbw2.trans (hbj.mono hbw2.size)
          clear hcj hg2 hc2 hbj hbw2
          by_cases h8 : 8 < zs.length
          · have h8p : 8 < p.length := by rw [← hzl.out]; exact h8
            have hcell := hg5.cell (k := 8) (List.getElem?_eq_getElem h8)
            have hfr := hg5.free 8
            have hst := hg5.store (k := 8) h8 (zs[8] + 91)
            rw [add91] at hst
            have HST := Lib.hid hst
            clear hst
            have hub := u8_lt zs[8]
            have HK := Lib.hid (kept_at zs p.length zs.length hzl.out.symm rfl (some ⟨g2, 0, none⟩) g cap cap2 w.heap.size wr.heap.size wr hg5 hc5.rd (by omega))
            go_wp2_with (first
              | (go_at_call 20; refine HK.out.mono ?_; rintro e w9 ⟨rfl, rfl⟩)
              | fail)
            go_roundw
            case rel => exact ⟨t + 1, zs.set 8 (zs[8] + 91), by omega, by go_num, by rw [Hid, List.length_set]; exact hzl.out, HST.out, hb5.setCell (p := ⟨g, 8, none⟩) hg5.base_ge _⟩
            case measure => simp [intOf]; omega
          · have h8p : ¬ 8 < p.length := by rw [← hzl.out]; exact h8
            have HK := Lib.hid (kept_at zs p.length zs.length hzl.out.symm rfl (some ⟨g2, 0, none⟩) g cap cap2 w.heap.size wr.heap.size wr hg5 hc5.rd (by omega))
            go_wp2_with (first
              | (go_at_call 20; refine HK.out.mono ?_; rintro e w9 ⟨rfl, rfl⟩)
              | fail)
            go_roundw
            case rel => exact ⟨t + 1, zs, by omega, by go_num, hzl, hg5, hb5⟩
            case measure => simp [intOf]; omega
    · obtain rfl : t = 2 := by omega
      go_wp2
      go_ret
      exact ⟨rfl, hbr⟩

end Go.Proofs.Ytbhjcfhpabnadaa
