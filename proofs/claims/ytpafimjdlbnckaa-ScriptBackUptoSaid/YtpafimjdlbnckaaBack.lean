/-
  The walk of ScriptBack.
-/
import Derived.Test.YtpafimjdlbnckaaTotal
namespace Go.Proofs.Ytpafimjdlbnckaa
open Go.RowKit

set_option maxRecDepth 100000 in
set_option maxHeartbeats 2000000 in
theorem back_bad (l : List St) (m : Nat) (hm : m = l.length) (A : Option Addr) (c : Nat) (N : Option Addr) (n cb : Nat) (w : World) (hst : StAt w w.heap.size 4 A l) (hml : m ≤ 1048576) (hel : (encL l).length ≤ 1048576) (hno : ¬ ∀ s ∈ l, okS s) :
    Calls Try.prog 5 #[.slice A m c, .slice N n cb] w fun e w' => e = .returned (.bool true) ∧ Below w.heap.size w w' := by
  have EN := Lib.hid (fun (w' : World) (hb : Below w.heap.size w w') => show Calls Try.prog 8 #[.slice A m c] w' fun e w2 => e = .returned (.tuple #[.slice none 0 0, .int .i64 2]) ∧ Below w'.heap.size w' w2 by
    rw [hm]
    refine (enc_any l A c w.heap.size w' (hst.below hb) hb.size (by omega) (by omega)).mono ?_
    rintro e w2 ⟨hb2, ⟨ha, _⟩ | ⟨_, rfl⟩⟩
    · exact absurd ha hno
    · exact ⟨rfl, hb2⟩)
  clear hm hst hno hel
  go_enter Try.func5, Try.ntmps5
  go_wp2_with (first
    | (go_at_call 21; refine (awake_any _).mono ?_; rintro e w1 ⟨rfl, b1⟩)
    | (go_at_call 8; refine (EN.out w1 b1).mono ?_; rintro e w4 ⟨rfl, d4⟩; have b4 := b1.trans (d4.mono b1.size))
    | fail)
  go_ret
  exact ⟨rfl, b4⟩

set_option maxRecDepth 100000 in
set_option maxHeartbeats 2000000 in
theorem back_good (l : List St) (m : Nat) (hm : m = l.length) (A : Option Addr) (c : Nat) (b : List UInt8) (n : Nat) (hn : n = b.length) (N : Option Addr) (cb : Nat) (w : World) (hst : StAt w w.heap.size 4 A l) (hr : Rd w w.heap.size N (bv b)) (hml : m ≤ 1048576) (hel : (encL l).length ≤ 1048576) (hdl : ∀ s ∈ l, s.data.length ≤ 1048576) (hnl : n ≤ 1048576) (hok : ∀ s ∈ l, okS s) :
    Calls Try.prog 5 #[.slice A m c, .slice N n cb] w fun e w' => e = .returned (.bool true) ∧ Below w.heap.size w w' := by
  obtain ⟨S, hS⟩ : ∃ S, S = steps b := ⟨_, rfl⟩
  obtain ⟨t, ht⟩ : ∃ t, t = S.length := ⟨_, rfl⟩
  obtain ⟨E, hE⟩ : ∃ E, E = encL l := ⟨_, rfl⟩
  obtain ⟨k, hk⟩ : ∃ k, k = E.length := ⟨_, rfl⟩
  obtain ⟨kn, hkn⟩ : ∃ kn, kn = k + n := ⟨_, rfl⟩
  obtain ⟨mt, hmt⟩ : ∃ mt, mt = m + t := ⟨_, rfl⟩
  have htl : t ≤ 1048576 := by rw [ht, hS]; have := steps_len b; omega
  have hkl : k ≤ 1048576 := by rw [hk, hE]; exact hel
  have hknl : kn ≤ 2097152 := by omega
  have hsumN : k + n = kn := hkn.symm
  have hsumI : (m : Int) + (t : Int) = (mt : Int) := by omega
  have hla : mt = (l ++ S).length := by rw [List.length_append]; omega
  have D1 := Lib.hid (fun (A : Option Addr) (c : Nat) (w : World) (hA : A = none → c = 0) (hc : kn ≤ c) (hr : Rd w w.heap.size A (bv (E ++ b))) => show Calls Try.prog 15 #[.slice A kn c] w fun e w' => ∃ O c', e = .returned (.slice O mt c') ∧ StAt w' w'.heap.size 4 O (l ++ S) ∧ Below w.heap.size w w' by
    have h := dec_at (E ++ b) kn (by rw [List.length_append, ← hk, ← hn]; exact hkn) A c hA hc (by omega) w hr
    rw [hE, steps_enc l b hok, ← hS, ← hla] at h
    exact h)
  have D2 := Lib.hid (fun (A : Option Addr) (c : Nat) (w : World) (hA : A = none → c = 0) (hc : n ≤ c) (hr : Rd w w.heap.size A (bv b)) => show Calls Try.prog 15 #[.slice A n c] w fun e w' => ∃ O c', e = .returned (.slice O t c') ∧ StAt w' w'.heap.size 4 O S ∧ Below w.heap.size w w' by
    rw [ht, hS]
    exact dec_at b n hn A c hA hc (by omega) w hr)
  have EN := Lib.hid (fun (A : Option Addr) (c B : Nat) (w : World) (hst : StAt w B 4 A l) (hB : B ≤ w.heap.size) => show Calls Try.prog 8 #[.slice A m c] w fun e w' => ∃ A' c', e = .returned (.tuple #[.slice A' k c', .int .i64 0]) ∧ Go.Proofs.Ytpafimjdlbnckaa.Own w' w.heap.size 5 1 A' k c' (bv E) ∧ Below w.heap.size w w' by
    have h := enc_good l m hm A c B w hst hB (by omega) (by omega) hok
    rw [← hE, ← hk] at h
    exact h)
  have HKE := Lib.hid (show (∀ s ∈ l, s.data.length ≤ 1048576) ∧ ∀ s ∈ S, s.data.length ≤ 1048581 from ⟨hdl, fun s hs => by
    have h1 := encL_mem hs
    have h2 := steps_bulk _ b (Nat.le_refl _)
    have h3 := encS_ge (all_ok b s (by rw [← hS]; exact hs))
    rw [← hS] at h2
    omega⟩)
  have HN := Lib.hid hn
  have HM := Lib.hid hm
  have HT := Lib.hid ht
  have HK := Lib.hid hk
  have HL := Lib.hid hla
  have tk : True := trivial
  have tk2 : True := trivial
  have tk3 : True := trivial
  clear hn hm hS hE hk ht hkn hla hdl hok hel
  have hmt' : mt = m + t := hmt
  have HMT := Lib.hid hmt
  clear hmt hmt'
  go_enter Try.func5, Try.ntmps5
  go_wp2_with (first
    | (go_at_call 21; refine (awake_any _).mono ?_; rintro e w1 ⟨rfl, b1⟩)
    | (go_at_call 8; refine (EN.out A c w.heap.size w1 (hst.below b1) b1.size).mono ?_; rintro e w2 ⟨A2, c2, rfl, h2, d2⟩; have b2 := b1.trans (d2.mono b1.size))
    | (at_builtin; have _t := tk; refine wpList_app rfl (.tmp 23) (.tmp 24) 24 rfl w2.heap.size 5 1 1 elB _ 0 0 [] rfl (Own.made (Nat.le_refl _)) w2.heap.size A2 k c2 (bv E) rfl ((h2.rd).alloc (Nat.le_refl _) _) (by rw [bv_length]; exact HK.out.symm.trans (Nat.mul_one k).symm) (bv_one _) k (bv E) (Nat.zero_add _) rfl (by omega) (by unfold maxLen; omega) (by simp) ?_; intro A3 c3 w3 h3 hg3 at3; have d3 := below_own ((Below.refl w2.heap.size w2).alloc (Nat.le_refl _) _) hg3 (Own.made (size := 1) (Nat.le_refl _)) (by simp); have b3 := b2.trans (d3.mono b2.size); clear tk _t)
    | (at_builtin; have _t := tk2; refine wpList_app rfl (.tmp 25) (.tmp 26) 24 rfl w2.heap.size 5 1 1 elB A3 k c3 (bv E) rfl h3 w.heap.size N n cb (bv b) rfl (hr.below b3) (by rw [bv_length]; exact HN.out.symm.trans (Nat.mul_one n).symm) (bv_one _) kn (bv (E ++ b)) hsumN (bv_append E b).symm (by omega) (by unfold maxLen; omega) d3.size ?_; intro A4 c4 w4 h4 hg4 at4; have d4 := below_own d3 hg4 h3 d3.size; have b4 := b2.trans (d4.mono b2.size); clear tk2)
    | (go_at_call 15; have _t := tk3; refine (D1.out A4 c4 w4 (own_cap h4).1 (own_cap h4).2 h4.rd).mono ?_; rintro e w5 ⟨O5, c5, rfl, st5, d5⟩; have b5 := b4.trans (d5.mono b4.size); clear tk3 _t)
    | (at_builtin; refine wpList_app rfl (.tmp 29) (.tmp 30) 24 rfl w5.heap.size 5 1 1 elB _ 0 0 [] rfl (Own.made (Nat.le_refl _)) w.heap.size N n cb (bv b) rfl ((hr.below b5).alloc b5.size _) (by rw [bv_length]; exact HN.out.symm.trans (Nat.mul_one n).symm) (bv_one _) n (bv b) (Nat.zero_add _) rfl (by omega) (by unfold maxLen; omega) (by simp) ?_; intro A6 c6 w6 h6 hg6 at6; have d6 := below_own ((Below.refl w5.heap.size w5).alloc (Nat.le_refl _) _) hg6 (Own.made (size := 1) (Nat.le_refl _)) (by simp); have b6 := b5.trans (d6.mono b5.size))
    | (go_at_call 15; refine (D2.out A6 c6 w6 (own_cap h6).1 (own_cap h6).2 h6.rd).mono ?_; rintro e w7 ⟨O7, c7, rfl, st7, d7⟩; have b7 := b6.trans (d7.mono b6.size); have st6 := (st5.below d6).below (d7.mono d6.size); have s67 := Nat.le_trans d6.size d7.size)
    | fail)
  clear h2 h3 h4 h6 hg3 hg4 hg6 at3 at4 at6
  go_loopw [9] (fun i wr => ∃ q : Nat, q ≤ m ∧ i = .int .i64 q ∧ Below w7.heap.size w7 wr) (fun i _ => m - (intOf i).toNat)
  case atStart => exact ⟨0, Nat.zero_le _, rfl, Below.refl _ _⟩
  case round =>
    obtain ⟨q, hq, rfl, hbq⟩ := hrel
    by_cases hlt : q < m
    · have hlt' : q < l.length := by rw [← HM.out]; exact hlt
      have hlt2 : q < (l ++ S).length := by rw [List.length_append]; omega
      have bw := b7.trans (hbq.mono b7.size)
      obtain ⟨G, o, D, d, rfl, hG, g0, g1, g2, g3, gr⟩ := hst.below bw q hlt'
      obtain ⟨H, o', D', d', rfl, hH, k0, k1, k2, k3, kr⟩ := st6.below (hbq.mono s67) q hlt2
      rw [List.getElem_append_left hlt'] at k0 k1 k2 k3 kr
      obtain ⟨s, hs⟩ : ∃ s, s = l[q] := ⟨_, rfl⟩
      have hsd : s.data.length ≤ 1048576 := HKE.out.1 s (by rw [hs]; exact List.getElem_mem hlt')
      rw [← hs] at g0 g1 g2 g3 gr k0 k1 k2 k3 kr
      have hqt : (q : Int) < (mt : Int) := by have := HMT.out; omega
      have hGw : G < wr.heap.size := Nat.lt_of_lt_of_le hG bw.size
      have hHw : H < wr.heap.size := Nat.lt_of_lt_of_le hH (Nat.le_trans s67 hbq.size)
      have hB1 : w.heap.size ≤ wr.heap.size := bw.size
      have hB2 : w5.heap.size ≤ wr.heap.size := Nat.le_trans s67 hbq.size
      have hs0 : (0 : Int) ≤ (q : Int) := Int.natCast_nonneg _
      have hs1 : (q : Int) < (m : Int) := by omega
      clear hs st5 st6 st7 hst hlt' hlt2 D1 D2 EN HKE HL HT HK HN
      go_wp2_with fail
      go_region_held3 (fun w' => w'.cell? ⟨G, o + q * 4, none⟩ = some (.int .i64 s.op) ∧ w'.cell? ⟨G, o + q * 4 + 1, none⟩ = some (.int .i64 s.a) ∧ w'.cell? ⟨G, o + q * 4 + 2, none⟩ = some (.int .i64 s.b) ∧ w'.cell? ⟨G, o + q * 4 + 3, none⟩ = some (.slice D s.data.length d) ∧
          w'.cell? ⟨H, o' + q * 4, none⟩ = some (.int .i64 s.op) ∧ w'.cell? ⟨H, o' + q * 4 + 1, none⟩ = some (.int .i64 s.a) ∧ w'.cell? ⟨H, o' + q * 4 + 2, none⟩ = some (.int .i64 s.b) ∧ w'.cell? ⟨H, o' + q * 4 + 3, none⟩ = some (.slice D' s.data.length d'))
        (first
          | go_keep
          | (go_split_ands
             refine ⟨?_, ?_, ?_, ?_, ?_, ?_, ?_, ?_⟩
             all_goals ((rw [hb3.cell (by first | exact hGw | exact hHw)]); simp [*])))
        ((go_at_call 22; go_loud (refine (both_eq s.op s.a s.b s.data s.data.length rfl D D' d d' _ _ wr.drew gr kr hB1 hB2 (by omega)).mono ?_); rintro e w3 ⟨rfl, hb3⟩))
      go_wp2
      go_roundw
      case rel => exact ⟨q + 1, by omega, by go_num, hbq.trans (((Below.refl wr.heap.size wr).drew.trans hb3).mono hbq.size)⟩
      case measure =>
        show m - (intOf (.int .i64 ((q : Int) + 1))).toNat < m - (intOf (.int .i64 (q : Int))).toNat
        simp only [intOf]
        omega
    · obtain rfl : m = q := by omega
      obtain ⟨wa, rfl⟩ : ∃ wa, wa = wr := ⟨_, rfl⟩
      have w8s := hbq.size
      have st6' := st6.below (hbq.mono s67)
      have st7' := st7.below hbq
      have b8 := b7.trans (hbq.mono b7.size)
      have hB5 : w5.heap.size ≤ wa.heap.size := Nat.le_trans s67 hbq.size
      clear st5 st6 st7 hst D1 D2 EN
      go_wp2
      go_loopw [10] (fun i wz => ∃ q : Nat, q ≤ t ∧ i = .int .i64 q ∧ Below wa.heap.size wa wz) (fun i _ => t - (intOf i).toNat)
      case atStart => exact ⟨0, Nat.zero_le _, rfl, Below.refl _ _⟩
      case round =>
        obtain ⟨q, hq, rfl, hbq2⟩ := hrel
        by_cases hlt : q < t
        · obtain ⟨mq, hmq⟩ : ∃ mq, mq = m + q := ⟨_, rfl⟩
          have hmqI : (m : Int) + (q : Int) = (mq : Int) := by omega
          have hwr : IntKind.i64.wrap ((m : Int) + (q : Int)) = (mq : Int) := by rw [hmqI]; exact IntWalk.i64_in _ (by omega)
          have hwr2 : IntKind.i64.wrap (mq : Int) = (mq : Int) := IntWalk.i64_in _ (by omega)
          have hlt' : q < S.length := by rw [← HT.out]; exact hlt
          have hlt2 : mq < (l ++ S).length := by have := HL.out; have := HMT.out; omega
          have bw := b8.trans (hbq2.mono b8.size)
          obtain ⟨G, o, D, d, rfl, hG, g0, g1, g2, g3, gr⟩ := st7'.below (hbq2.mono w8s) q hlt'
          obtain ⟨H, o', D', d', rfl, hH, k0, k1, k2, k3, kr⟩ := st6'.below (hbq2.mono hB5) mq hlt2
          have hget : (l ++ S)[mq] = S[q] := by
            rw [List.getElem_append_right (by have := HM.out; omega)]
            congr 1
            have := HM.out
            omega
          rw [hget] at k0 k1 k2 k3 kr
          obtain ⟨s, hs⟩ : ∃ s, s = S[q] := ⟨_, rfl⟩
          have hsd : s.data.length ≤ 1048581 := HKE.out.2 s (by rw [hs]; exact List.getElem_mem hlt')
          rw [← hs] at g0 g1 g2 g3 gr k0 k1 k2 k3 kr
          have hmq0 : (0 : Int) ≤ (mq : Int) := Int.natCast_nonneg _
          have hqt : (mq : Int) < (mt : Int) := by have := HMT.out; omega
          have hGw : G < wr.heap.size := Nat.lt_of_lt_of_le hG (Nat.le_trans w8s hbq2.size)
          have hHw : H < wr.heap.size := Nat.lt_of_lt_of_le hH (Nat.le_trans hB5 hbq2.size)
          have hB1 : w7.heap.size ≤ wr.heap.size := Nat.le_trans w8s hbq2.size
          have hB2 : w5.heap.size ≤ wr.heap.size := Nat.le_trans hB5 hbq2.size
          have hs0 : (0 : Int) ≤ (q : Int) := Int.natCast_nonneg _
          have hs1 : (q : Int) < (t : Int) := by omega
          clear hs hget hmq st6' st7' hlt' hlt2 HKE HL HT HK HN
          go_wp2_with fail
          go_region_held3 (fun w' => w'.cell? ⟨G, o + q * 4, none⟩ = some (.int .i64 s.op) ∧ w'.cell? ⟨G, o + q * 4 + 1, none⟩ = some (.int .i64 s.a) ∧ w'.cell? ⟨G, o + q * 4 + 2, none⟩ = some (.int .i64 s.b) ∧ w'.cell? ⟨G, o + q * 4 + 3, none⟩ = some (.slice D s.data.length d) ∧
              w'.cell? ⟨H, o' + mq * 4, none⟩ = some (.int .i64 s.op) ∧ w'.cell? ⟨H, o' + mq * 4 + 1, none⟩ = some (.int .i64 s.a) ∧ w'.cell? ⟨H, o' + mq * 4 + 2, none⟩ = some (.int .i64 s.b) ∧ w'.cell? ⟨H, o' + mq * 4 + 3, none⟩ = some (.slice D' s.data.length d'))
            (first
              | go_keep
              | (go_split_ands
                 refine ⟨?_, ?_, ?_, ?_, ?_, ?_, ?_, ?_⟩
                 all_goals ((rw [hb3.cell (by first | exact hGw | exact hHw)]); simp [*])))
            ((go_at_call 22; go_loud (refine (both_eq s.op s.a s.b s.data s.data.length rfl D D' d d' _ _ wr.drew gr kr hB1 hB2 (by omega)).mono ?_); rintro e w3 ⟨rfl, hb3⟩))
          go_wp2
          go_roundw
          case rel => exact ⟨q + 1, by omega, by go_num, hbq2.trans (((Below.refl wr.heap.size wr).drew.trans hb3).mono hbq2.size)⟩
          case measure =>
            show t - (intOf (.int .i64 ((q : Int) + 1))).toNat < t - (intOf (.int .i64 (q : Int))).toNat
            simp only [intOf]
            omega
        · obtain rfl : q = t := by omega
          go_wp2
          go_ret
          exact ⟨rfl, b8.trans (hbq2.mono b8.size)⟩

theorem back_any (l : List St) (A : Option Addr) (c : Nat) (b : List UInt8) (N : Option Addr) (cb : Nat) (w : World) (hst : StAt w w.heap.size 4 A l) (hr : Rd w w.heap.size N (bv b)) (hml : l.length ≤ 1048576) (hel : (encL l).length ≤ 1048576) (hdl : ∀ s ∈ l, s.data.length ≤ 1048576) (hnl : b.length ≤ 1048576) :
    Calls Try.prog 5 #[.slice A l.length c, .slice N b.length cb] w fun e w' => e = .returned (.bool true) ∧ Below w.heap.size w w' := by
  by_cases hok : ∀ s ∈ l, okS s
  · exact back_good l _ rfl A c b _ rfl N cb w hst hr hml hel hdl hnl hok
  · exact back_bad l _ rfl A c N _ cb w hst hml hel hok

end Go.Proofs.Ytpafimjdlbnckaa
