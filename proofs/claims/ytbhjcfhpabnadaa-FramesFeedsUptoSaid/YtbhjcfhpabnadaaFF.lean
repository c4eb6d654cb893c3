/-
  The walk of FramesFeeds.
-/
import Derived.Test.YtbhjcfhpabnadaaFillM
import Derived.Test.YtbhjcfhpabnadaaRdW
import Derived.Test.YtbhjcfhpabnadaaSame
import Derived.Test.YtbhjcfhpabnadaaFramedW
namespace Go.Proofs.Ytbhjcfhpabnadaa
open Go.RowKit

attribute [local go_sem] drewN_setCell drewN_alloc World.drewN_drewN

set_option maxRecDepth 100000 in
set_option maxHeartbeats 4000000 in
theorem framesFeeds_any (l : List (List UInt8)) (A : Option Addr) (c : Nat) (other : List UInt8) (X : Option Addr) (cx : Nat) (w : World) (hl : LL w w.heap.size A l) (tl : totalB l ≤ 1048576) (hx : Rd w w.heap.size X (bv other)) (hxl : other.length ≤ 1048576) :
    Calls Try.prog 12 #[.slice A l.length c, .slice X other.length cx] w fun e w' => e = .returned (.bool true) ∧ Below w.heap.size w w' := by
  obtain ⟨n, hn⟩ : ∃ n, n = l.length := ⟨_, rfl⟩
  obtain ⟨nx, hnx⟩ : ∃ n, n = other.length := ⟨_, rfl⟩
  have hnl : n ≤ 1048576 := by have := total_len l; omega
  rw [← hn, ← hnx]
  rw [← hnx] at hxl
  have HN := Lib.hid hn
  have HX := Lib.hid (And.intro hnx hx)
  have HL := Lib.hid hl
  clear hn hnx hx hl
  have tk : True := trivial
  go_enter Try.func12, Try.ntmps12
  go_wp2_with (first
    | (go_at_call 40; have _t := tk; refine (newReader_at w).mono ?_; rintro e w1 ⟨rfl, hr1, hb1, hs1⟩; have HS1 := Lib.hid hs1; clear hs1 tk _t)
    | (go_at_call 40; refine (newReader_at w1).mono ?_; rintro e w2 ⟨rfl, hr2, hb2, hs2⟩; have HS2 := Lib.hid hs2; clear hs2)
    | (go_at_call 41; refine (waits_nil _).mono ?_; rintro e w3 ⟨rfl, rfl⟩)
    | (go_at_call 42; refine (dead_nil _).mono ?_; rintro e w3 ⟨rfl, rfl⟩)
    | fail)
  have H0 : Hid (Three w (w2.alloc (.cells #[.slice none 0 0, .bool false] 73)) w.heap.size w2.heap.size w1.heap.size none none none ⟨[], false⟩ ⟨[], false⟩ ⟨[], false⟩) := by
    have a1 := HS1.out
    have a2 := HS2.out
    have d := (Below.refl w2.heap.size w2).alloc (Nat.le_refl _) (.cells #[.slice none 0 0, .bool false] 73)
    exact ⟨(hr1.below hb2).below d, ⟨⟨0, new_at w2 _, Own.nil_ _ _ _ _⟩, fun _ => rfl⟩, (hr2.below d).base_le (by omega), ⟨by omega, by omega, by omega⟩, ⟨by omega, by omega, by omega⟩, (fun k h => by cases h), (fun k h => by cases h), (fun k h => by cases h), ⟨⟨by simp, fun _ => rfl⟩, ⟨by simp, fun _ => rfl⟩, ⟨by simp, fun _ => rfl⟩⟩, (hb1.trans (hb2.mono hb1.size)).trans (d.mono (Nat.le_trans hb1.size hb2.size))⟩
  clear hr1 hr2 hb1 hb2 HS1 HS2
  go_loopw [9] (fun i wr => ∃ (t : Nat) (Ar Ad As : Option Addr) (r s : RSt), t ≤ n ∧ t ≤ 200 ∧ i = .int .i64 t ∧ Hid (Three w wr w.heap.size w2.heap.size w1.heap.size Ar Ad As r r s)) (fun i _ => n - (intOf i).toNat)
  case atStart => exact ⟨0, none, none, none, ⟨[], false⟩, ⟨[], false⟩, Nat.zero_le _, Nat.zero_le _, rfl, H0⟩
  case round =>
    obtain ⟨t, Ar, Ad, As, r, s, htn, ht2, rfl, H⟩ := hrel
    obtain ⟨wo, rfl⟩ : ∃ wo : World, wo = wr := ⟨_, rfl⟩
    rcases (show (t < n ∧ t < 200) ∨ ¬ t < n ∨ (t < n ∧ ¬ t < 200) by omega) with ⟨hlt, h200⟩ | hlt | ⟨hlt, h200⟩
    · have hlt2 : t < l.length := by rw [← HN.out]; exact hlt
      obtain ⟨a, S', cc', rfl, hab, hcw, hr1'⟩ := HL.out.get2 hlt2
      obtain ⟨p, hpe⟩ : ∃ p, p = l[t] := ⟨_, rfl⟩
      have hpt := total_get l t hlt2
      rw [← hpe] at hcw hr1' hpt
      obtain ⟨k, hk⟩ : ∃ k, k = p.length := ⟨_, rfl⟩
      rw [← hk] at hcw hpt
      have hkb : k ≤ 1048576 := by omega
      have hc1 := (H.out.below.cell hab).trans hcw
      have HK := Lib.hid hk
      have HCW := Lib.hid (fun (W : World) (hb : Below w.heap.size w W) => And.intro ((hb.cell hab).trans hcw) (hr1'.below hb))
      have HLN := Lib.hid (lent36_n p k hk S' cc' w.heap.size wo (hr1'.below H.out.below) (by omega))
      obtain ⟨L, hL⟩ : ∃ L, L = feedM r p := ⟨_, rfl⟩
      obtain ⟨r', hr'⟩ : ∃ r', r' = feedR r p := ⟨_, rfl⟩
      have hrk := feedR_ok H.out.ok.1 p
      have hLl := feedM_len r p
      have hrw := H.out.ok.1.1
      have hsw := H.out.ok.2.2.1
      have HF := Lib.hid (fun (W : World) (Ar : Option Addr) (hr : Rdr W 115 w.heap.size w.heap.size Ar r) (hs : w.heap.size ≤ W.heap.size) (S : Option Addr) (cs : Nat) (hp : Rd W W.heap.size S (bv p)) => feed_any r w.heap.size w.heap.size Ar W hr hs p k hk S cs W.heap.size hp (by omega))
      have HG := Lib.hid (fun (W : World) (Ad : Option Addr) (hr : Rdr W 73 w.heap.size w2.heap.size Ad r) (hs : w.heap.size ≤ W.heap.size) (hp : Rd W w.heap.size S' (bv p)) => rfeed_any r w2.heap.size w.heap.size Ad W hr p k hk S' cc' w.heap.size hp hs (by omega))
      rw [← hL] at HF HG hLl
      rw [← hr'] at HF HG hrk
      rw [← hk] at hLl
      clear hpe hk hL hr' hcw hr1' hlt2
      have tok : True := trivial
      go_wp2_with (first
        | (go_at_call 36; go_loud (refine HLN.out.mono ?_); rintro e w3 ⟨g3, cap3, rfl, hc3, hcp3, b3⟩; have H3 := Lib.hid (H.out.step b3))
        | (go_at_call 43; have _t := tok; go_loud (refine (HF.out w3 Ar H3.out.hr H3.out.below.size _ cap3 hc3.rd).mono ?_); rintro e w4 ⟨O4, c4, A4, rfl, o4, r4, t4⟩; have H4 := Lib.hid (H3.out.feedR r4 t4 hrk); have hcl4 := HCW.out w4 H4.out.below; obtain ⟨hc4, hrd4⟩ := hcl4; clear tok _t)
        | (go_at_call 44; go_loud (refine (HG.out w4 Ad H4.out.hd H4.out.below.size hrd4).mono ?_); rintro e w5 ⟨O5, c5, A5, rfl, o5, r5, t5⟩; have H5 := Lib.hid (H4.out.feedD r5 t5 hrk))
        | (go_at_call 43; go_loud (refine (feed_nil _ k cap3 w5).mono ?_); rintro e w6 ⟨rfl, rfl⟩)
        | fail)
      have s34 := H4.out.below.size
      have o4' := H4.out.row H4.out.hd o4 (by decide) (fun q hq e => by have := (o4.blk_ge hq).1; have := (H3.out.hd.blk_ge e).2; omega) t5
      have g34 := H3.out.row H3.out.hr hc3.2 (by decide) (fun q hq e => by have := (hc3.2.blk_ge hq).1; have := (H.out.hr.blk_ge e).2; omega) t4
      have g35 := H4.out.row H4.out.hd g34 (by decide) (fun q hq e => by have := (g34.blk_ge hq).1; have := (H.out.hd.blk_ge e).2; omega) t5
      have hc5 := HCW.out w5 H5.out.below
      obtain ⟨hcell5, _⟩ := hc5
      obtain ⟨⟨cD, hzd, _⟩, _⟩ := H5.out.hd
      have y0 := cellAt hzd (j := 0) rfl
      have y1 := cellAt hzd (j := 1) rfl
      have hltd := lt_of_heap hzd
      have HZD := Lib.hid hzd
      have HM := Lib.hid (fun (W : World) (hb : Below w5.heap.size w5 W) => messages_any L L.length rfl O4 O5 c4 c5 w3.heap.size w4.heap.size W (o4'.below hb (Nat.le_refl _)) (o5.below hb (Nat.le_refl _)) (by omega))
      have H41 := Lib.hid (fun (W : World) (hb : Below w5.heap.size w5 W) => waits_any (H5.out.hr.below hb))
      have H42 := Lib.hid (fun (W : World) (hb : Below w5.heap.size w5 W) => dead_any (H5.out.hr.below hb))
      have H39 := Lib.hid (fun (W : World) (hb : Below w5.heap.size w5 W) => kept39_at p k k HK.out HK.out S' g3 cap3 cc' wo.heap.size w.heap.size W ⟨hc3.1, g35.below hb (Nat.le_refl _)⟩ (HCW.out W (H5.out.below.trans (hb.mono H5.out.below.size))).2 (by have := HK.out; omega))
      have HCC := Lib.hid (fun (W : World) (hb : Below w5.heap.size w5 W) => (HCW.out W (H5.out.below.trans (hb.mono H5.out.below.size))).1)
      have HO4 := Lib.hid o4'
      have HPL := Lib.hid (And.intro hc3.2.rd (And.intro (show wo.heap.size ≤ g3 ∧ g3 < w3.heap.size from ⟨(hc3.2.blk_ge (g := g3) rfl).1, (hc3.2.blk_ge (g := g3) rfl).2⟩) (And.intro (fun q (hq : blk A4 = some q) => (r4.blk_ge hq).1) (And.intro (fun q (hq : blk A5 = some q) => (r5.blk_ge hq).1) (And.intro (fun q (hq : blk As = some q) => (H.out.hs.blk_ge hq).2) (And.intro H.out.hr.lt (And.intro H.out.hd.lt H.out.hs.lt)))))))
      have s3 := H3.out.below.size
      have sr := H.out.below.size
      have s45 := t5.size
      have s4 := t4.size
      have hcp6 := hc3.1
      have HG5 := Lib.hid g35
      clear o4 o4' o5 g34 g35 hzd t4 t5 r4 r5 hc3 hc4 hrd4 hc1
      go_region_held3 (fun w' => w'.cell? ⟨w2.heap.size, 0, none⟩ = some (.slice A5 r'.waits.length cD) ∧ w'.cell? ⟨w2.heap.size, 1, none⟩ = some (.bool r'.dead) ∧ w'.cell? (a.add t) = some (.slice S' k cc'))
        (first
          | exact ⟨y0, y1, hcell5⟩
          | exact ⟨z0, z1, z2⟩
          | go_keep)
        (first
          | (go_at_call 45; go_loud (refine (HM.out _ ((Below.refl _ w5).drew)).mono ?_); rintro e w6 ⟨rfl, b6⟩; go_loud (have b56 : Below w5.heap.size w5 w6 := (Below.refl _ w5).drew.trans b6; have z0 : w6.cell? ⟨w2.heap.size, 0, none⟩ = some (.slice A5 r'.waits.length cD) := (b56.cell (p := ⟨w2.heap.size, 0, none⟩) hltd).trans y0; have z1 : w6.cell? ⟨w2.heap.size, 1, none⟩ = some (.bool r'.dead) := (b56.cell (p := ⟨w2.heap.size, 1, none⟩) hltd).trans y1; have z2 : w6.cell? (a.add t) = some (.slice S' k cc') := HCC.out w6 b56))
          | (go_at_call 41; go_loud (refine (H41.out _ (by first | exact b56 | exact b56.drew)).mono ?_); rintro e w7 ⟨rfl, rfl⟩)
          | (go_at_call 42; go_loud (refine (H42.out _ (by first | exact b56 | exact b56.drew)).mono ?_); rintro e w7 ⟨rfl, rfl⟩)
          | (go_at_call 39; go_loud (refine (H39.out _ (by first | exact b56 | exact b56.drew)).mono ?_); rintro e w7 ⟨rfl, rfl⟩))
      have H6 := Lib.hid (H5.out.step b56)
      have hc6 : Copy w6 wo.heap.size g3 cap3 p := ⟨hcp6, HG5.out.below b56 (Nat.le_refl _)⟩
      have HO6 := Lib.hid (HO4.out.below b56 (Nat.le_refl _))
      obtain ⟨_, ⟨hg3a, hg3b⟩, hA4, hA5, hAs, hgr, hgd, hgs⟩ := HPL.out
      have HA4 := Lib.hid hA4
      have HA5 := Lib.hid hA5
      have HAs := Lib.hid hAs
      clear hA4 hA5 hAs HPL z0 z1 z2 y0 y1 hcell5 HM H41 H42 H39 b6 HZD
      go_wp2
      go_loopw [17] (fun i wz => ∃ (j : Nat) (zs : List UInt8), j ≤ k ∧ i = .int .i64 j ∧ Hid (zs.length = k) ∧ Copy wz wo.heap.size g3 cap3 zs ∧ Hid (Tur (fun q => q = g3) w6 wz)) (fun i _ => k - (intOf i).toNat)
      case atStart => exact ⟨0, p, Nat.zero_le _, rfl, HK.out.symm, hc6, Tur.refl _ _⟩
      case round =>
        obtain ⟨j, zs, hj, rfl, hzl, hcz, hT⟩ := hrel
        by_cases hltj : j < k
        · have hjl : j < zs.length := by rw [hzl.out]; exact hltj
          have hcell := hcz.cell (k := j) (List.getElem?_eq_getElem hjl)
          have hfr := hcz.free j
          have hst := hcz.store (k := j) hjl (zs[j] + 91)
          rw [add91] at hst
          have HST := Lib.hid hst
          have hub := u8_lt zs[j]
          clear hst hcz
          go_wp2
          go_roundw
          case rel => exact ⟨j + 1, zs.set j (zs[j] + 91), by omega, by go_num, by rw [Hid, List.length_set]; exact hzl.out, HST.out, hT.out.trans (Tur.of_set wr ⟨g3, j, none⟩ _) fun q _ h => h⟩
          case measure => simp [intOf]; omega
        · have H7 := Lib.hid (H6.out.given (g := g3) (by omega) ⟨by omega, by omega, by omega⟩ (fun q hq => by have := HA4.out q hq; omega) (fun q hq => by have := HA5.out q hq; omega) (fun q hq => by have := HAs.out q hq; omega) hT.out)
          have HO7 : Own wr w3.heap.size 60 7 O4 L.length c4 (mv L) := HO6.out.tur hT.out fun q hq e => by have := (HO6.out.blk_ge hq).1; omega
          obtain ⟨wp, rfl⟩ : ∃ wp : World, wp = wr := ⟨_, rfl⟩
          clear hT hcz hc6
          go_wp2
          go_loopw [18] (fun i wz => ∃ (j : Nat) (xs : List Value), j ≤ L.length ∧ i = .int .i64 j ∧ Own wz w3.heap.size 60 7 O4 L.length c4 xs ∧ Hid (Three w wz w.heap.size w2.heap.size w1.heap.size A4 A5 As r' r' s)) (fun i _ => L.length - (intOf i).toNat)
          case atStart => exact ⟨0, mv L, Nat.zero_le _, rfl, HO7, H7.out⟩
          case round =>
            obtain ⟨i, xs, hi, rfl, ho, h3⟩ := hrel
            by_cases hlti : i < L.length
            · obtain ⟨g4, rfl, hg4a, hg4b, _⟩ := ho.form_pos (by omega)
              obtain ⟨u0, u1, u2, u3, u4, u5, u6, q0, q1, q2, q3, q4, q5, q6⟩ := ho.at7 hlti
              have f0 := ho.free7 (i * 7)
              have f1 := ho.free7 (i * 7 + 1)
              have f2 := ho.free7 (i * 7 + 2)
              have f3 := ho.free7 (i * 7 + 3)
              have f4 := ho.free7 (i * 7 + 4)
              have f5 := ho.free7 (i * 7 + 5)
              have f6 := ho.free7 (i * 7 + 6)
              have HO := Lib.hid ho
              have hLb : L.length ≤ 16777216 := by omega
              clear ho HO7
              go_wp2
              go_roundw
              case rel => exact ⟨i + 1, _, by omega, by go_num, HO.out.set7 (i * 7) _ _ _ _ _ _ _, h3.out.row7 HO.out (by omega) ⟨by omega, by omega, by omega⟩ (Tur.set7 _ _ _ _ _ _ _ _ _ _)⟩
              case measure => simp [intOf]; omega
            · clear ho HO7
              have s3b := h3.out.below.size
              have hrk2 := feedR_ok h3.out.ok.2.2 other
              have HLX := Lib.hid (lent36_n other nx HX.out.1 X cx w.heap.size wr (HX.out.2.below h3.out.below) (by omega))
              have HFX := Lib.hid (fun (W : World) (hr : Rdr W 115 w.heap.size w1.heap.size As s) (hs : w.heap.size ≤ W.heap.size) (S : Option Addr) (cs : Nat) (hp : Rd W W.heap.size S (bv other)) => feed_any s w1.heap.size w.heap.size As W hr hs other nx HX.out.1 S cs W.heap.size hp (by omega))
              go_wp2_with (first
                | (go_at_call 36; go_loud (refine HLX.out.mono ?_); rintro e w8 ⟨g8, cap8, rfl, hc8, hcp8, b8⟩; have H8 := Lib.hid (h3.out.step b8))
                | (go_at_call 43; go_loud (refine (HFX.out w8 H8.out.hs H8.out.below.size _ cap8 hc8.rd).mono ?_); rintro e w9 ⟨O9, c9, A9, rfl, o9, r9, t9⟩; have H9 := Lib.hid (H8.out.feedS r9 t9 hrk2); clear o9 r9 t9)
                | fail)
              go_roundw
              case rel => exact ⟨t + 1, A4, A5, A9, r', feedR s other, by omega, by omega, by go_num, H9.out⟩
              case measure => simp [intOf]; omega
    · go_wp2
      go_ret
      exact ⟨rfl, H.out.below⟩
    · go_wp2
      go_ret
      exact ⟨rfl, H.out.below⟩

end Go.Proofs.Ytbhjcfhpabnadaa
