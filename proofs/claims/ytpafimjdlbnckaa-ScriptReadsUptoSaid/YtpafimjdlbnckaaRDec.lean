/-
  The walk of turnpikeref02.Decode.
-/
import Derived.Test.YtpafimjdlbnckaaDecC
import Derived.Test.YtpafimjdlbnckaaSW
namespace Go.Proofs.Ytpafimjdlbnckaa
open Go.RowKit

theorem elB2 : Elem Try.prog 24 5 1 1 := Elem.of (z := .int .u8 0) Try.underlying24 (by kernel_rfl) rfl (by decide)

set_option maxHeartbeats 400000 in
theorem at_any (b : List UInt8) (n p g : Nat) (hn : n = b.length) (hg : g = gb b p) (A : Option Addr) (c B : Nat) (w : World) (hr : Rd w B A (bv b)) :
    Calls Try.prog 23 #[.slice A n c, .int .i64 p] w fun e w' => e = .returned (.int .i64 g) ∧ w = w' := by
  by_cases hlt : p < n
  · obtain ⟨a, rfl, _, hc⟩ := hr.byte (k := p) (show p < b.length by omega)
    have hpb : p < b.length := by omega
    obtain ⟨y, hy⟩ : ∃ y, y = b[p] := ⟨_, rfl⟩
    have hgy : (g : Int) = (y.toNat : Int) := by rw [hg, gb_in hpb, hy]
    rw [← hy] at hc
    have HG := Lib.hid hgy
    have hub : y.toNat < 256 := y.toNat_lt
    clear hn hg hgy hr hy hpb
    go_enter Try.func23, Try.ntmps23
    go_wp2
    go_ret
    exact ⟨ret_int HG.out.symm, rfl⟩
  · have hgy : (g : Int) = 0 := by rw [hg, gb_out (by omega)]; rfl
    have HG := Lib.hid hgy
    clear hn hg hgy hr
    go_enter Try.func23, Try.ntmps23
    go_wp2
    go_ret
    exact ⟨ret_int HG.out.symm, rfl⟩

def El.rs (x : El) : List Value := [.int .i64 x.s.op, .int .i64 x.s.a, .int .i64 x.s.b, .slice x.A x.s.data.length x.c, .int .i64 x.k]
def flatR (els : List El) : List Value := els.flatMap El.rs
theorem flatR_snoc (els : List El) (x : El) : flatR (els ++ [x]) = flatR els ++ x.rs := by simp [flatR]
theorem flatR_at (els : List El) (j : Nat) (hj : j < els.length) : Grp (flatR els) 5 j els[j].rs := by
  induction els generalizing j with
  | nil => simp at hj
  | cons x r ih =>
    intro i u hu
    have hi : i < 5 := by
      have := (List.getElem?_eq_some_iff.1 hu).1
      simpa [El.rs] using this
    cases j with
    | zero =>
      simp only [flatR, List.flatMap_cons, Nat.zero_mul, Nat.zero_add]
      rw [List.getElem?_append_left (by simpa [El.rs] using hi)]
      simpa using hu
    | succ j =>
      have h := ih j (by simpa using hj) i u (by simpa using hu)
      simp only [flatR, List.flatMap_cons] at h ⊢
      rw [List.getElem?_append_right (by simp [El.rs]; omega)]
      rw [show (j + 1) * 5 + i - x.rs.length = j * 5 + i by simp [El.rs]; omega]
      exact h

theorem link_ref {b : List UInt8} {k m : Nat} {pre : List El} {x : El} (h : Linked b k pre) (hk : k < b.length) (hx : x.k = k) (hs : x.s = stepL (b.drop k)) (hm : m = k + used (b.drop k) ∨ (b.length ≤ m ∧ b.length ≤ k + used (b.drop k))) : Linked b m (pre ++ [x]) := by
  have hne : b.drop k ≠ [] := by
    intro e
    have := congrArg List.length e
    simp at this
    omega
  unfold Linked at *
  rw [h, decR_cons hne, List.drop_drop]
  have hr : decR (k + used (b.drop k)) (b.drop (k + used (b.drop k))) = decR m (b.drop m) := by
    rcases hm with rfl | ⟨h1, h2⟩
    · rfl
    · rw [List.drop_of_length_le h1, List.drop_of_length_le h2]
      rfl
  rw [hr]
  simp [El.g, hx, hs]

/-- What the reference's Decode leaves. -/
def RDecOut (w : World) (b : List UInt8) (e : Ending) (w' : World) : Prop :=
  ∃ O c els, e = .returned (.slice O (List.length (α := El) els) c) ∧ Go.Proofs.Ytpafimjdlbnckaa.Own w' w.heap.size 29 5 O els.length c (flatR els) ∧ AllS b els ∧ Dat w' w.heap.size els ∧ Below w.heap.size w w'

def RI (w : World) (b : List UInt8) (k : Nat) (pre : List El) (R : Option Addr) (c : Nat) (wr : World) : Prop :=
  Linked b k pre ∧ Go.Proofs.Ytpafimjdlbnckaa.Own wr w.heap.size 29 5 R pre.length c (flatR pre) ∧ Dat wr w.heap.size pre ∧ Below w.heap.size w wr

theorem tmod_nat {g o : Nat} (h : o = g % 16) : ((g : Int).tmod 16) = (o : Int) := by
  rw [h]
  rfl

theorem len_le {b : List UInt8} {k : Nat} {pre : List El} (h : Linked b k pre) (hk : k < b.length) : pre.length + 1 ≤ b.length := by
  have hne : b.drop k ≠ [] := by
    intro e
    have := congrArg List.length e
    simp at this
    omega
  have h1 := decR_len _ 0 b (Nat.le_refl _)
  unfold Linked at h
  rw [h, decR_cons hne] at h1
  simp at h1
  omega

set_option maxRecDepth 100000 in
set_option maxHeartbeats 3000000 in
theorem rdec_any (b : List UInt8) (n : Nat) (hn : n = b.length) (A : Option Addr) (c : Nat) (hl : n ≤ 16777216) (w : World) (hr : Rd w w.heap.size A (bv b)) :
    Calls Try.prog 14 #[.slice A n c] w (RDecOut w b) := by
  have HN := Lib.hid hn
  clear hn
  go_enter Try.func14, Try.ntmps14
  go_wp2
  go_loopw [3, 4] (fun r i wr => ∃ (k : Nat) (pre : List El) (R : Option Addr) (cr : Nat), r = .slice R pre.length cr ∧ i = .int .i64 k ∧ k ≤ 33554432 ∧ Hid (RI w b k pre R cr wr)) (fun _ i _ => n - (intOf i).toNat)
  case atStart => exact ⟨0, [], none, 0, rfl, rfl, by omega, rfl, Own.nil_ _ _ _ _, fun x hx => (by simp at hx), Below.refl _ _⟩
  case round =>
    obtain ⟨k, pre, R, cr, rfl, rfl, hkl, HI⟩ := hrel
    obtain ⟨wa, rfl⟩ : ∃ wa, wa = wr := ⟨_, rfl⟩
    by_cases hlt : k < n
    · have hlt' : k < b.length := by rw [← HN.out]; exact hlt
      have hpl := len_le HI.out.1 hlt'
      have hbl : b.length ≤ 16777216 := by rw [← HN.out]; exact hl
      obtain ⟨g0, hg0⟩ : ∃ g0, g0 = gb b k := ⟨_, rfl⟩
      obtain ⟨g1, hg1⟩ : ∃ g1, g1 = gb b (k + 1) := ⟨_, rfl⟩
      obtain ⟨g2, hg2⟩ : ∃ g2, g2 = gb b (k + 2) := ⟨_, rfl⟩
      obtain ⟨g3, hg3⟩ : ∃ g3, g3 = gb b (k + 3) := ⟨_, rfl⟩
      obtain ⟨g4, hg4⟩ : ∃ g4, g4 = gb b (k + 3 + 1) := ⟨_, rfl⟩
      have N0 := Lib.hid (at_any b n k g0 HN.out hg0 A c w.heap.size)
      have N1 := Lib.hid (at_any b n (k + 1) g1 HN.out hg1 A c w.heap.size)
      have N2 := Lib.hid (at_any b n (k + 2) g2 HN.out hg2 A c w.heap.size)
      have N3 := Lib.hid (at_any b n (k + 3) g3 HN.out hg3 A c w.heap.size)
      have N4 := Lib.hid (at_any b n (k + 3 + 1) g4 HN.out hg4 A c w.heap.size)
      have b0 : g0 < 256 := by rw [hg0]; exact gb_lt _ _
      have b1 : g1 < 256 := by rw [hg1]; exact gb_lt _ _
      have b2 : g2 < 256 := by rw [hg2]; exact gb_lt _ _
      have b3 : g3 < 256 := by rw [hg3]; exact gb_lt _ _
      have b4 : g4 < 256 := by rw [hg4]; exact gb_lt _ _
      obtain ⟨o, ho⟩ : ∃ o, o = g0 % 16 := ⟨_, rfl⟩
      have hrem := tmod_nat ho
      have hob : o < 16 := by rw [ho]; exact Nat.mod_lt _ (by decide)
      obtain ⟨hst, hus⟩ := step_form hg0 hg1 hg2 ho
      have HST := Lib.hid (And.intro hst hus)
      obtain ⟨nn, hnn⟩ : ∃ nn, nn = g3 + 256 * g4 := ⟨_, rfl⟩
      have hsaid := Lib.hid (show saidN (b.drop k) = nn by unfold saidN; rw [gb_drop, gb_drop, hnn, hg3, hg4])
      have hsum : (g3 : Int) + 256 * (g4 : Int) = (nn : Int) := by omega
      have hnb : nn ≤ 65535 := by omega
      have hrw := hr.below HI.out.2.2.2
      have hswr := HI.out.2.2.2.size
      have t0 : True := trivial
      have t1 : True := trivial
      have t2 : True := trivial
      have t3 : True := trivial
      clear hg0 hg1 hg2 hg3 hg4 hst hus hnn ho
      have hbel0 : Below w.heap.size wa (wa.alloc (.cells #[.int .i64 (o : Int), .int .i64 (g1 : Int), .int .i64 (g2 : Int), .slice none 0 0, .int .i64 (k : Int)] 29)) := (Below.refl _ wa).alloc hswr _
      have hrw2 := hrw.below hbel0
      cases hcar : carB (o : Int)
      · obtain ⟨x, hx⟩ : ∃ x, x = El.mk k none 0 (St.mk (o : Int) (g1 : Int) (g2 : Int) []) := ⟨_, rfl⟩
        have HX := Lib.hid (show flatR pre ++ (#[.int .i64 (o : Int), .int .i64 (g1 : Int), .int .i64 (g2 : Int), .slice none 0 0, .int .i64 (k : Int)] : Array Value).toList = flatR (pre ++ [x]) by rw [flatR_snoc, hx]; rfl)
        have HX2 := Lib.hid hx
        clear hx
        go_wp2_with (first
          | (go_at_call 23; have _t := t0; refine (N0.out wa hrw).mono ?_; rintro e w1 ⟨rfl, rfl⟩; clear t0 _t)
          | (go_at_call 23; have _t := t1; refine (N1.out wa hrw).mono ?_; rintro e w1 ⟨rfl, rfl⟩; clear t1 _t)
          | (go_at_call 23; refine (N2.out wa hrw).mono ?_; rintro e w1 ⟨rfl, rfl⟩)
          | (go_at_call 20; refine (rcarries_any (o : Int) _).mono ?_; rintro e w1 ⟨rfl, rfl⟩)
          | (at_builtin; go_loud (refine wpList_app_new rfl (.tmp 64) (.tmp 66) 23 rfl w.heap.size 29 5 56 Try.el23 R pre.length cr (flatR pre) rfl (HI.out.2.1.alloc _) #[.int .i64 (o : Int), .int .i64 (g1 : Int), .int .i64 (g2 : Int), .slice none 0 0, .int .i64 (k : Int)] (wa.heap.size + 1) 1 1 (by simp) rfl rfl (oneStep5 _ _ _ _ _ _ _) (pre.length + 1) (flatR (pre ++ [x])) rfl HX.out (by omega) (by unfold maxLen; omega) (Nat.le_trans hswr hbel0.size) ?_); intro R2 cr2 w2 ho2 hg2 hat2)
          | fail)
        have hlk := link_ref (m := k + 3) (x := x) HI.out.1 hlt' (by rw [HX2.out]) (by rw [HX2.out, HST.out.1, hcar]; rfl) (by rw [HST.out.2, hcar]; exact .inl rfl)
        have hdat2 : Dat w2 w.heap.size (pre ++ [x]) := by
          intro y hy
          rcases List.mem_append.1 hy with hy | hy
          · exact ((HI.out.2.2.1 y hy).alloc _).other (HI.out.2.1.alloc _) (by decide) hg2
          · simp only [List.mem_singleton] at hy
            rw [hy, HX2.out]
            exact Own.nil_ _ _ _ _
        have hb2 := below_own (HI.out.2.2.2.trans hbel0) hg2 (HI.out.2.1.alloc _) (Nat.le_trans hswr hbel0.size)
        have hRI : RI w b (k + 3) (pre ++ [x]) R2 cr2 w2 := ⟨hlk, by simpa using ho2, hdat2, hb2⟩
        have HRI := Lib.hid hRI
        clear hlk hdat2 hb2 hRI ho2 hg2 hat2
        go_wp2
        go_roundw
        case rel => exact ⟨k + 3, _, R2, cr2, by simp, by go_num, by omega, HRI⟩
        case measure =>
          show n - (intOf (.int .i64 ((k : Int) + 3))).toNat < n - (intOf (.int .i64 (k : Int))).toNat
          simp only [intOf]
          omega
      · go_wp2_with (first
          | (go_at_call 23; have _t := t0; refine (N0.out wa hrw).mono ?_; rintro e w1 ⟨rfl, rfl⟩; clear t0 _t)
          | (go_at_call 23; have _t := t1; refine (N1.out wa hrw).mono ?_; rintro e w1 ⟨rfl, rfl⟩; clear t1 _t)
          | (go_at_call 23; have _t := t2; refine (N2.out wa hrw).mono ?_; rintro e w1 ⟨rfl, rfl⟩; clear t2 _t)
          | (go_at_call 23; have _t := t3; refine (N3.out _ hrw2).mono ?_; rintro e w1 ⟨rfl, rfl⟩; clear t3 _t)
          | (go_at_call 23; refine (N4.out _ hrw2).mono ?_; rintro e w1 ⟨rfl, rfl⟩)
          | (go_at_call 20; refine (rcarries_any (o : Int) _).mono ?_; rintro e w1 ⟨rfl, rfl⟩)
          | fail)
        obtain ⟨i5, hi5⟩ : ∃ i5, i5 = k + 5 := ⟨_, rfl⟩
        go_loopw [4, 7] (fun vi vk wz => ∃ (j : Nat) (D : Option Addr) (cd : Nat), j ≤ nn ∧ vi = .int .i64 (i5 + j : Nat) ∧ vk = .int .i64 j ∧ (j = 0 ∨ i5 + j ≤ n) ∧ wz.cell? ⟨wa.heap.size, 0, none⟩ = some (.int .i64 o) ∧ wz.cell? ⟨wa.heap.size, 1, none⟩ = some (.int .i64 g1) ∧ wz.cell? ⟨wa.heap.size, 2, none⟩ = some (.int .i64 g2) ∧ wz.cell? ⟨wa.heap.size, 3, none⟩ = some (.slice D j cd) ∧ wz.cell? ⟨wa.heap.size, 4, none⟩ = some (.int .i64 k) ∧ wz.frozen? ⟨wa.heap.size, 3, none⟩ = false ∧ Go.Proofs.Ytpafimjdlbnckaa.Own wz (wa.heap.size + 1) 5 1 D j cd (bv ((b.drop i5).take j)) ∧ Below wa.heap.size wa wz ∧ wa.heap.size + 1 ≤ wz.heap.size) (fun _ vk _ => nn - (intOf vk).toNat)
        case atStart => exact ⟨0, none, 0, Nat.zero_le _, by go_num, rfl, .inl rfl, by simp, by simp, by simp, by simp, by simp, by simp, Own.nil_ _ _ _ _, (Below.refl _ wa).alloc (Nat.le_refl _) _, by simp⟩
        case round =>
          obtain ⟨j, D, cd, hj, rfl, rfl, hjn, e0, e1, e2, e3, e4, f3, hd, hbz, hsz⟩ := hrel
          by_cases hgo : j < nn ∧ i5 + j < n
          · obtain ⟨hjl, hin⟩ := hgo
            have hrz := hrw.below (hbz.mono hswr)
            obtain ⟨q, hq⟩ : ∃ q, q = i5 + j := ⟨_, rfl⟩
            have hqb : q < b.length := by rw [← HN.out]; omega
            obtain ⟨a, rfl, hab, hc⟩ := hrz.byte (k := q) hqb
            obtain ⟨y, hy⟩ : ∃ y, y = b[q] := ⟨_, rfl⟩
            have hub : y.toNat < 256 := y.toNat_lt
            rw [← hy] at hc
            have hbv : bv ((b.drop i5).take j) ++ [.int .u8 (y.toNat : Int)] = bv ((b.drop i5).take (j + 1)) := by
              have hjd : j < (b.drop i5).length := by rw [List.length_drop]; omega
              rw [List.take_succ_eq_append_getElem hjd, bv_append]
              congr 1
              simp only [bv, List.map_cons, List.map_nil, List.getElem_drop, hy, hq]
            have HBV := Lib.hid hbv
            have hqI : (i5 : Int) + (j : Int) = (q : Int) := by omega
            have hq0 : (0 : Int) ≤ (q : Int) := Int.natCast_nonneg _
            have hq1 : (q : Int) < (n : Int) := by omega
            have haz : (a.add q).block < wr.heap.size := by rw [add_block]; omega
            have haw : ¬ (a.add q).block = wa.heap.size := by rw [add_block]; omega
            have haw2 : ¬ wa.heap.size = (a.add q).block := by rw [add_block]; omega
            have hne3 := World.new_ne wr _ hc
            have hne1 : ¬ wr.heap.size = wa.heap.size := by omega
            have hne2 : ¬ wa.heap.size = wr.heap.size := by omega
            have hlw : wa.heap.size < wr.heap.size := by omega
            clear hbv hy hqb
            rw [← hq]
            have HQ := Lib.hid hq
            clear hq
            go_wp2_with fail
            go_region_law (go_loud (refine step_app (by rfl) _ _ _ (by rfl) (wa.heap.size + 1) 5 1 1 elB2 D j cd (bv ((b.drop i5).take j)) (by rfl) (hd.alloc _) (wr.heap.size + 1) (some ⟨wr.heap.size, 0, none⟩) 1 1 _ (by rfl) (new_rd wr #[.int .u8 (y.toNat : Int)] 5 _ (Nat.lt_succ_self _)) rfl (by simp [Value.oneCell']) (j + 1) _ rfl HBV.out (by omega) (by unfold maxLen; omega) (by simp; omega) ?_); intro D3 cd3 w3 hd3 hg3 hat3; have f33 : w3.frozen? ⟨wa.heap.size, 3, none⟩ = false := (hg3.frozen_far ⟨wa.heap.size, 3, none⟩ (by simp; omega) (fun e => hd.blk_low (Nat.lt_succ_self _) e.symm)).trans ((World.frozen?_alloc_past (w := wr) _ wa.heap.size 3 hlw).trans f3); have e30 := grown_cell hg3 ((World.cell?_alloc_lt wr (.cells #[.int .u8 (y.toNat : Int)] 5) ⟨wa.heap.size, 0, none⟩ hlw).trans e0) (hd.blk_low (Nat.lt_succ_self _)); have e31 := grown_cell hg3 ((World.cell?_alloc_lt wr (.cells #[.int .u8 (y.toNat : Int)] 5) ⟨wa.heap.size, 1, none⟩ hlw).trans e1) (hd.blk_low (Nat.lt_succ_self _)); have e32 := grown_cell hg3 ((World.cell?_alloc_lt wr (.cells #[.int .u8 (y.toNat : Int)] 5) ⟨wa.heap.size, 2, none⟩ hlw).trans e2) (hd.blk_low (Nat.lt_succ_self _)); have e33 := grown_cell hg3 ((World.cell?_alloc_lt wr (.cells #[.int .u8 (y.toNat : Int)] 5) ⟨wa.heap.size, 3, none⟩ hlw).trans e3) (hd.blk_low (Nat.lt_succ_self _)); have e34 := grown_cell hg3 ((World.cell?_alloc_lt wr (.cells #[.int .u8 (y.toNat : Int)] 5) ⟨wa.heap.size, 4, none⟩ hlw).trans e4) (hd.blk_low (Nat.lt_succ_self _)))
            all_goals
              have hb3 : Below wa.heap.size wa w3 := below_own (w := (wr.alloc (.cells #[.int .u8 (y.toNat : Int)] 5)).drew) ((hbz.alloc (by omega) _).drew) hg3 ((hd.alloc _).base_le (Nat.le_succ _)) (by simp; omega)
              have hs3 : wa.heap.size + 1 ≤ w3.heap.size := by have := hg3.size; simp at this; omega
              have hd4 := hd3.setCell_low (p := ⟨wa.heap.size, 3, none⟩) (Nat.lt_succ_self _) (.slice D3 (j + 1) cd3)
              have hb4 := hb3.setCell (p := ⟨wa.heap.size, 3, none⟩) (Nat.le_refl _) (.slice D3 (j + 1) cd3)
              have q0 : (w3.setCell ⟨wa.heap.size, 3, none⟩ (.slice D3 (j + 1) cd3)).cell? ⟨wa.heap.size, 0, none⟩ = some (.int .i64 (o : Int)) := by simp [go_sem, e30]
              have q1 : (w3.setCell ⟨wa.heap.size, 3, none⟩ (.slice D3 (j + 1) cd3)).cell? ⟨wa.heap.size, 1, none⟩ = some (.int .i64 (g1 : Int)) := by simp [go_sem, e31]
              have q2 : (w3.setCell ⟨wa.heap.size, 3, none⟩ (.slice D3 (j + 1) cd3)).cell? ⟨wa.heap.size, 2, none⟩ = some (.int .i64 (g2 : Int)) := by simp [go_sem, e32]
              have q3 : (w3.setCell ⟨wa.heap.size, 3, none⟩ (.slice D3 (j + 1) cd3)).cell? ⟨wa.heap.size, 3, none⟩ = some (.slice D3 (j + 1) cd3) := by simp [go_sem, e33]
              have q4 : (w3.setCell ⟨wa.heap.size, 3, none⟩ (.slice D3 (j + 1) cd3)).cell? ⟨wa.heap.size, 4, none⟩ = some (.int .i64 (k : Int)) := by simp [go_sem, e34]
              have qf : (w3.setCell ⟨wa.heap.size, 3, none⟩ (.slice D3 (j + 1) cd3)).frozen? ⟨wa.heap.size, 3, none⟩ = false := by simp [f33]
              go_wp2
              go_roundw
              case rel =>
                refine ⟨j + 1, D3, cd3, by omega, ?_, by go_num, .inr (by omega), q0, q1, q2, q3, q4, qf, hd4, hb4, by simpa using hs3⟩
                rw [← hqI]
                go_num
              case measure =>
                show nn - (intOf (.int .i64 ((j : Int) + 1))).toNat < nn - (intOf (.int .i64 (j : Int))).toNat
                simp only [intOf]
                omega
          · have hout : ¬ (j < nn) ∨ (j < nn ∧ ¬ (i5 + j < n)) := by omega
            obtain ⟨Dl, hDl⟩ : ∃ Dl, Dl = (b.drop i5).take j := ⟨_, rfl⟩
            rw [← hDl] at hd
            have hDj : j = Dl.length := by
              rw [hDl, List.length_take, List.length_drop, ← HN.out]
              rcases hjn with rfl | h <;> omega
            have hDe : (b.drop i5).take nn = Dl := by
              rw [hDl]
              rcases hout with h | ⟨_, h⟩
              · rw [show j = nn by omega]
              · rw [List.take_of_length_le (by rw [List.length_drop, ← HN.out]; omega), List.take_of_length_le (by rw [List.length_drop, ← HN.out]; omega)]
            obtain ⟨x, hx⟩ : ∃ x, x = El.mk k D cd (St.mk (o : Int) (g1 : Int) (g2 : Int) Dl) := ⟨_, rfl⟩
            have HX := Lib.hid (show flatR pre ++ (#[.int .i64 (o : Int), .int .i64 (g1 : Int), .int .i64 (g2 : Int), .slice D j cd, .int .i64 (k : Int)] : Array Value).toList = flatR (pre ++ [x]) by rw [flatR_snoc, hx, hDj]; rfl)
            have HXS := Lib.hid (show x.k = k ∧ x.s = stepL (b.drop k) by
              rw [hx, HST.out.1, hcar, hsaid.out, List.drop_drop, ← hi5, hDe]
              exact ⟨rfl, rfl⟩)
            have HU := Lib.hid (show i5 + j = k + used (b.drop k) ∨ (b.length ≤ i5 + j ∧ b.length ≤ k + used (b.drop k)) by
              rw [HST.out.2, hcar, hsaid.out, ← HN.out]
              simp only [if_true]
              rcases hout with h | ⟨_, h⟩
              · left; omega
              · by_cases h2 : j = nn
                · left; omega
                · right; omega)
            have hlk := link_ref (m := i5 + j) (x := x) HI.out.1 hlt' HXS.out.1 HXS.out.2 HU.out
            have HLK := Lib.hid hlk
            have hown := HI.out.2.1.below hbz (Nat.le_refl _)
            have hdx : Go.Proofs.Ytpafimjdlbnckaa.Own wr w.heap.size 5 1 x.A x.s.data.length x.c (bv x.s.data) := by
              rw [hx]
              simp only
              rw [← hDj]
              exact hd.base_le (by omega)
            have HDX := Lib.hid hdx
            have hszr : w.heap.size ≤ wr.heap.size := by omega
            have hij : i5 + j ≤ 33554432 := by omega
            have hijk : k < i5 + j := by omega
            have hbw := HI.out.2.2.2.trans (hbz.mono hswr)
            clear hx hDl hDj hDe hlk hdx hd
            rcases hout with hout | ⟨hout1, hout⟩
            all_goals
              go_wp2_with (first
                | (at_builtin; go_loud (refine wpList_app_new rfl (.tmp 64) (.tmp 66) 23 rfl w.heap.size 29 5 56 Try.el23 R pre.length cr (flatR pre) rfl hown #[.int .i64 (o : Int), .int .i64 (g1 : Int), .int .i64 (g2 : Int), .slice D j cd, .int .i64 (k : Int)] wr.heap.size 1 1 (by simp) rfl rfl (oneStep5 _ _ _ _ _ _ _) (pre.length + 1) (flatR (pre ++ [x])) rfl HX.out (by omega) (by unfold maxLen; omega) hszr ?_); intro R2 cr2 w2 ho2 hg2 hat2)
                | fail)
              have hdat2 : Dat w2 w.heap.size (pre ++ [x]) := by
                intro y hy
                rcases List.mem_append.1 hy with hy | hy
                · exact ((HI.out.2.2.1 y hy).below hbz (Nat.le_refl _)).other hown (by decide) hg2
                · simp only [List.mem_singleton] at hy
                  rw [hy]
                  exact HDX.out.other hown (by decide) hg2
              have hb2 := below_own hbw hg2 hown hszr
              have hRI : RI w b (i5 + j) (pre ++ [x]) R2 cr2 w2 := ⟨HLK.out, by simpa using ho2, hdat2, hb2⟩
              have HRI := Lib.hid hRI
              clear hdat2 hb2 hRI ho2 hg2 hat2
              go_roundw
              case rel => exact ⟨i5 + j, _, R2, cr2, by simp, by go_num, by omega, HRI⟩
              case measure =>
                show n - (intOf (.int .i64 ((k : Int) + 5 + (j : Int)))).toNat < n - (intOf (.int .i64 (k : Int))).toNat
                simp only [intOf]
                omega
    · have hnk : b.length ≤ k := by rw [← HN.out]; omega
      go_wp2
      go_ret
      obtain ⟨h1, h2, h3, h4⟩ := HI.out
      refine ⟨R, cr, pre, rfl, h2, ?_, h3, h4⟩
      unfold Linked at h1
      rw [List.drop_of_length_le hnk, decR_nil] at h1
      simpa [AllS] using h1.symm

end Go.Proofs.Ytpafimjdlbnckaa
