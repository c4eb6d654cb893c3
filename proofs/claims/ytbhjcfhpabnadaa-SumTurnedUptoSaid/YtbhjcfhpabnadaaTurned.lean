/-
  The walk of SumTurned.
-/
import Derived.Test.YtbhjcfhpabnadaaTL
namespace Go.Proofs.Ytbhjcfhpabnadaa
open Go.RowKit

set_option maxRecDepth 100000 in
set_option maxHeartbeats 4000000 in
theorem turned_any (l : List (List UInt8)) (which at0 : Int) (turns : Nat) (hturns : turns < 4294967296) (A : Option Addr) (c : Nat) (w : World) (hl : LL w w.heap.size A l) (ht : totalB l ≤ 1048576) :
    Calls Try.prog 8 #[.agg #[.slice A l.length c, .int .i64 which, .int .i64 at0, .int .u32 turns]] w fun e w' => e = .returned (.bool true) ∧ Below w.heap.size w w' := by
  obtain ⟨G, hG⟩ : ∃ G, G = goods l := ⟨_, rfl⟩
  obtain ⟨M, hM⟩ : ∃ M, M = (catF G).length := ⟨_, rfl⟩
  obtain ⟨q, hq⟩ : ∃ q, q = G.length := ⟨_, rfl⟩
  obtain ⟨n, hn⟩ : ∃ n, n = l.length := ⟨_, rfl⟩
  have hok : ∀ p ∈ G, p.length ≤ 131072 := by rw [hG]; exact goods_ok l
  have hGt : totalB G ≤ 1048576 := by rw [hG]; exact Nat.le_trans (goods_total l) ht
  have hMb : M ≤ 8388608 := by have := catF_bound G; omega
  have hqb : q ≤ 1048576 := by have := total_len G; omega
  have HF := Lib.hid (fun (w1 : World) (hb : Below w.heap.size w w1) => framed_at l G M q hG hM hq n hn A c w1 ((hl.below hb).more hb.size) ht)
  rw [← hn]
  have HM := Lib.hid hM
  have Hq := Lib.hid hq
  have Hn := Lib.hid hn
  have Hok := Lib.hid hok
  clear hG hM hq hn hok hl
  have hbox : Below w.heap.size w (w.alloc (.cells #[.slice A n c, .int .i64 which, .int .i64 at0, .int .u32 turns] 53)) := (Below.refl _ _).alloc (Nat.le_refl _) _
  by_cases h0 : 0 < q ∧ turns ≠ 0
  · obtain ⟨hq0, ht0⟩ := h0
    have ht1 : ((turns : Int) == 0) = false := by simpa using ht0
    have hq1 : ((q : Int) == 0) = false := by simp; omega
    go_enter Try.func8, Try.ntmps8
    go_wp2_with (first
      | (go_at_call 30; refine (awake_any _).mono ?_; rintro e w1 ⟨rfl, b1⟩; have b01 := hbox.trans (b1.mono hbox.size); have c0 := (b1.cell (p := ⟨w.heap.size, 0, none⟩) (by simp)); have c1 := (b1.cell (p := ⟨w.heap.size, 1, none⟩) (by simp)); have c2 := (b1.cell (p := ⟨w.heap.size, 2, none⟩) (by simp)); have c3 := (b1.cell (p := ⟨w.heap.size, 3, none⟩) (by simp)))
      | (go_at_call 32; refine (HF.out w1 b01).mono ?_; rintro e w2 ⟨Ab, cb, O, co, P, cp, vs, rfl, hb, hg, hpv, hp, b2⟩; have d2 := b01.trans (b2.mono b01.size))
      | (go_at_call 31; refine (round_pos which q _ hq0 (by omega)).mono ?_; rintro e wc ⟨⟨k, hk, rfl⟩, rfl⟩)
      | fail)
    have hkG : k < G.length := by rw [← Hq.out]; exact hk
    obtain ⟨p, hpe⟩ : ∃ p, p = G[k] := ⟨_, rfl⟩
    have hpl : p.length ≤ 131072 := by rw [hpe]; exact Hok.out _ (List.getElem_mem hkG)
    obtain ⟨ln, hln⟩ : ∃ ln, ln = p.length := ⟨_, rfl⟩
    obtain ⟨F0, hF0⟩ : ∃ F0, F0 = (catF (G.take k)).length := ⟨_, rfl⟩
    obtain ⟨E, hE⟩ : ∃ E, E = F0 + (8 + ln) := ⟨_, rfl⟩
    have hEM : E ≤ M := by
      have h1 := catF_take_le G (k + 1)
      rw [List.take_succ_eq_append_getElem hkG, ← hpe, catF_snoc, List.length_append, frame_len, ← hF0, ← hln, ← hE, ← HM.out] at h1
      exact h1
    obtain ⟨gp, rfl, _⟩ := hp.form_pos hq0
    obtain ⟨go, rfl, _⟩ := hg.form_pos hq0
    have hcp : w2.cell? ⟨gp, k, none⟩ = some (.int .i64 (E : Int)) := by
      obtain ⟨a, ha, _, hc⟩ := hp.rd k (.int .i64 (E : Int)) (by
        have := ends_get G 0 k hkG
        simp only [endsV, List.getElem?_map, List.getElem?_eq_getElem (show k < (ends 0 G).length by rw [ends_len]; exact hkG), Option.map_some, this]
        rw [List.take_succ_eq_append_getElem hkG, ← hpe, catF_snoc, List.length_append, frame_len, ← hF0, ← hln, ← hE, Nat.zero_add])
      obtain rfl := Option.some.inj ha
      rw [Addr.add_lit, Nat.zero_add] at hc
      exact hc
    obtain ⟨S, cc, hcg⟩ : ∃ S cc, w2.cell? ⟨go, k, none⟩ = some (.slice S ln cc) := by
      obtain ⟨a, S, cc, ha, hc, _⟩ := (hpv.ll hg b2 (Nat.le_refl _)).get hkG
      obtain rfl := Option.some.inj ha
      rw [Addr.add_lit, Nat.zero_add, ← hpe, ← hln] at hc
      exact ⟨S, cc, hc⟩
    obtain ⟨X4, hX4⟩ : ∃ X4, X4 = F0 + 8 := ⟨_, rfl⟩
    obtain ⟨fr, hfr⟩ : ∃ fr, fr = F0 + 4 := ⟨_, rfl⟩
    obtain ⟨sz, hsz⟩ : ∃ sz, sz = 4 + ln := ⟨_, rfl⟩
    obtain ⟨s8, hs8⟩ : ∃ s8, s8 = 8 * sz := ⟨_, rfl⟩
    have hs80 : 0 < s8 := by omega
    have hs8b : s8 ≤ 1048640 := by omega
    have hszb : fr + sz ≤ M := by omega
    have hfrb : fr ≤ 8388608 := by omega
    have e1 : IntKind.i64.wrap ((E : Int) - (ln : Int)) = (X4 : Int) := by rw [show (E : Int) - (ln : Int) = (X4 : Int) by omega]; exact IntWalk.i64_in _ (by omega)
    have e2 : IntKind.i64.wrap ((X4 : Int) - 4) = (fr : Int) := by rw [show (X4 : Int) - 4 = (fr : Int) by omega]; exact IntWalk.i64_in _ (by omega)
    have HD := Lib.hid (show (E : Int) - (fr : Int) = (sz : Int) ∧ 8 * (sz : Int) = (s8 : Int) by omega)
    have HPE := Lib.hid hpe
    have HLN := Lib.hid hln
    have HF0 := Lib.hid hF0
    have HFR := Lib.hid hfr
    have HSZ := Lib.hid hsz
    have HS8 := Lib.hid hs8
    clear hpe hln hF0 hE hX4 hfr hsz hs8 hEM
    go_quiet (fail)
    clear e1 e2
    obtain ⟨e3, e4⟩ := HD.out
    have tok1 : True := trivial
    go_wp2_with (first
      | (go_at_call 31; have _t := tok1; refine (round_pos at0 s8 _ hs80 (by omega)).mono ?_; rintro e wc ⟨⟨f, hf, rfl⟩, rfl⟩; clear tok1 _t)
      | fail)
    obtain ⟨gb, rfl, hgb⟩ := hb.form_pos (show 0 < M by omega)
    obtain ⟨pre, hpre⟩ : ∃ pre, pre = catF (G.take k) ++ be4 p.length := ⟨_, rfl⟩
    obtain ⟨R0, hR0⟩ : ∃ R0, R0 = be4 (more 0 (be4 p.length ++ p)) ++ p := ⟨_, rfl⟩
    obtain ⟨post, hpost⟩ : ∃ post, post = catF (G.drop (k + 1)) := ⟨_, rfl⟩
    have hcat : catF G = pre ++ R0 ++ post := by
      conv => lhs; rw [← List.take_append_drop k G, List.drop_eq_getElem_cons hkG]
      rw [← HPE.out, hpre, hR0, hpost]
      unfold catF
      rw [List.flatMap_append, List.flatMap_cons]
      unfold frame
      simp only [List.append_assoc]
    have hRl : R0.length = sz := by rw [hR0, List.length_append, be4_len, HSZ.out, HLN.out]
    have hprl : pre.length = fr := by rw [hpre, List.length_append, be4_len, HFR.out, HF0.out]
    have HPRE := Lib.hid (And.intro hpre (And.intro hR0 (And.intro hRl (And.intro hprl hcat))))
    clear hpre hR0 hpost hRl hprl
    have d2' : Below w1.heap.size w1 (w2.drewN nq) := below_drewN b2 nq
    have hb' : Own (w2.drewN nq) w1.heap.size 5 1 (some ⟨gb, 0, none⟩) M cb (bv (catF G)) := hb
    have hg' : Own (w2.drewN nq) w1.heap.size 22 1 (some ⟨go, 0, none⟩) q co vs := hg
    have hp' : Own (w2.drewN nq) w1.heap.size 3 1 (some ⟨gp, 0, none⟩) q cp (endsV G) := hp
    clear hb hg hp b2 d2 hcp hcg
    go_loopw [13, 14] (fun tn i wr => ∃ (t : Nat) (bs : List UInt8) (tb : Bool), i = .int .i64 t ∧ tn = .bool tb ∧ t ≤ 32 ∧ Hid (TurnAt pre R0 post f turns t bs tb) ∧ Own wr w1.heap.size 5 1 (some ⟨gb, 0, none⟩) M cb (bv bs) ∧
      Own wr w1.heap.size 22 1 (some ⟨go, 0, none⟩) q co vs ∧ Own wr w1.heap.size 3 1 (some ⟨gp, 0, none⟩) q cp (endsV G) ∧ Below w1.heap.size w1 wr) (fun _ i _ => 32 - (intOf i).toNat)
    case atStart => exact ⟨0, catF G, false, rfl, rfl, by omega, ⟨R0, HPRE.out.2.2.2.2, rfl, by simp [Nat.mod_one], by simp [Nat.mod_one], fun h => by omega, by have := HPRE.out.2.2.1; have := HS8.out; omega⟩, hb', hg', hp', d2'⟩
    case round =>
      obtain ⟨t, bs, tb, rfl, rfl, ht32, hat, hb, hg, hp, hbel⟩ := hrel
      by_cases h32 : t < 32
      · by_cases h8 : f + t < s8
        · by_cases hbr : f < 32 ∧ 32 ≤ f + t
          · obtain ⟨hbr1, hbr2⟩ := hbr
            cases tb with
            | false =>
              go_wp2
              go_ret
              exact ⟨rfl, b01.trans (hbel.mono b01.size)⟩
            | true =>
              obtain ⟨hbl, hscan⟩ := turn_end Hok.out hpl HPRE.out.1 HPRE.out.2.1 (by have := HPRE.out.2.2.1; have := HS8.out; omega) hturns hat.out
              have hbM : M = bs.length := by
                have := congrArg List.length HPRE.out.2.2.2.2
                rw [List.length_append, List.length_append, ← HM.out] at this
                omega
              have hkl : k = (G.take k).length := by rw [List.length_take]; have := Hq.out; omega
              have HSC := Lib.hid (scan_g (G := G.take k) (q := k) (M := F0) hscan hkl HF0.out M hbM)
              have HLN2 := Lib.hid (lent_o bs M hbM (some ⟨gb, 0, none⟩) cb wr.heap.size wr hb.rd (by omega))
              have HLG := Lib.hid (lists_g (G.take k) k k hkl hkl (by omega))
              have HGL := Lib.hid (fun (w' : World) (hb : Below wr.heap.size wr w') => ((hpv.ll hg hbel (Nat.le_refl _)).take k).own hb (Nat.le_refl _))
              have hco : (k : Int) ≤ (co : Int) := (by rcases hg.form with ⟨_, h0, h1⟩ | ⟨_, _, _, _, h0⟩ <;> omega)
              have hgpl := (hp.blk_ge (g := gp) rfl).2
              have HBM := Lib.hid hbM
              clear hbM hkl hbl hscan
              by_cases hk0 : 0 < k
              · obtain ⟨m, hm⟩ : ∃ m, k = m + 1 := ⟨k - 1, by omega⟩
                have hk1 : (k : Int) - 1 = (m : Int) := by omega
                have HCM := Lib.hid (fun (w' : World) (hb : Below wr.heap.size wr w') => show w'.cell? ⟨gp, m, none⟩ = some (.int .i64 (F0 : Int)) by
                  rw [hb.cell (p := ⟨gp, m, none⟩) hgpl]
                  have hmG : m < G.length := by omega
                  obtain ⟨a, ha, _, hc⟩ := hp.rd m (.int .i64 (F0 : Int)) (by
                    have := ends_get G 0 m hmG
                    simp only [endsV, List.getElem?_map, List.getElem?_eq_getElem (show m < (ends 0 G).length by rw [ends_len]; exact hmG), Option.map_some, this]
                    rw [← hm, ← HF0.out, Nat.zero_add])
                  obtain rfl := Option.some.inj ha
                  rw [Addr.add_lit, Nat.zero_add] at hc
                  exact hc)
                have Hm := Lib.hid hm
                clear hm
                go_wp2_with (first
                  | (go_at_call 17; refine HLN2.out.mono ?_; rintro e w3 ⟨g3, k3, rfl, h3, hk3, b3⟩)
                  | (go_at_call 27; refine (HSC.out _ k3 (fun h => by cases h) hk3 (by have := HBM.out; omega) w3 h3.rd).mono ?_; rintro e w4 ⟨O4, k4, rfl, h4, b4⟩; have b34 := b3.trans (b4.mono b3.size); have hcm4 := HCM.out w4 b34)
                  | (go_at_call 29; refine (HLG.out O4 (some ⟨go, 0, none⟩) k4 co w4.heap.size w4 h4 (HGL.out w4 b34)).mono ?_; rintro e w5 ⟨rfl, r5, rfl⟩)
                  | fail)
                go_ret
                exact ⟨rfl, below_drewN (b01.trans ((hbel.trans (b34.mono hbel.size)).mono b01.size)) r5⟩
              · have hF00 : ((F0 : Int) == 0) = true := by
                  have hkz : k = 0 := by omega
                  have := HF0.out
                  rw [hkz] at this
                  simp [this, catF]
                go_wp2_with (first
                  | (go_at_call 17; refine HLN2.out.mono ?_; rintro e w3 ⟨g3, k3, rfl, h3, hk3, b3⟩)
                  | (go_at_call 27; refine (HSC.out _ k3 (fun h => by cases h) hk3 (by have := HBM.out; omega) w3 h3.rd).mono ?_; rintro e w4 ⟨O4, k4, rfl, h4, b4⟩; have b34 := b3.trans (b4.mono b3.size))
                  | (go_at_call 29; refine (HLG.out O4 (some ⟨go, 0, none⟩) k4 co w4.heap.size w4 h4 (HGL.out w4 b34)).mono ?_; rintro e w5 ⟨rfl, r5, rfl⟩)
                  | fail)
                go_ret
                exact ⟨rfl, below_drewN (b01.trans ((hbel.trans (b34.mono hbel.size)).mono b01.size)) r5⟩
          · obtain ⟨bx, hbx0, hs1', hs0'⟩ := turn_step hat.out HPRE.out.2.2.2.1 (by have := HPRE.out.2.2.1; have := HS8.out; omega) hbr
            have hs1 := Lib.hid hs1'
            have hs0 := Lib.hid hs0'
            clear hs1' hs0'
            rcases (show 32 ≤ f ∨ (f < 32 ∧ f + t < 32) by omega) with hc | ⟨hc1, hc2⟩
            · have hbx := hbx0
              by_cases hbit : turns / 2 ^ t % 2 = 1
              · have hb1 : bits .and .u32 ((turns : Int) / 2 ^ t) 1 = 1 := by rw [bit_and turns t hturns, hbit]; rfl
                have hcell := own_cell hb hbx
                have hfrz := own_free hb (fr + (f + t) / 8)
                have hst := own_store (k := fr + (f + t) / 8) hb (turnB bx ((f + t) % 8))
                have HN := Lib.hid (hs1.out hbit)
                clear hbit
                go_wp2
                go_roundw
                case rel =>
                  rw [bit_xor bx (Nat.mod_lt _ (by omega))]
                  exact ⟨t + 1, _, true, by go_num, rfl, by omega, HN.out, hst, hg.setOther hb (by decide) _, hp.setOther hb (by decide) _, hbel.setCell (p := ⟨gb, fr + (f + t) / 8, none⟩) hgb.1 _⟩
                case measure => simp [intOf]; omega
              · have hb0 : turns / 2 ^ t % 2 = 0 := by omega
                have hb1 : bits .and .u32 ((turns : Int) / 2 ^ t) 1 = 0 := by rw [bit_and turns t hturns, hb0]; rfl
                have HN := Lib.hid (hs0.out hb0)
                clear hbit hb0
                go_wp2
                go_roundw
                case rel => exact ⟨t + 1, bs, tb, by go_num, rfl, by omega, HN.out, hb, hg, hp, hbel⟩
                case measure => simp [intOf]; omega
            · have hbx := hbx0
              by_cases hbit : turns / 2 ^ t % 2 = 1
              · have hb1 : bits .and .u32 ((turns : Int) / 2 ^ t) 1 = 1 := by rw [bit_and turns t hturns, hbit]; rfl
                have hcell := own_cell hb hbx
                have hfrz := own_free hb (fr + (f + t) / 8)
                have hst := own_store (k := fr + (f + t) / 8) hb (turnB bx ((f + t) % 8))
                have HN := Lib.hid (hs1.out hbit)
                clear hbit
                go_wp2
                go_roundw
                case rel =>
                  rw [bit_xor bx (Nat.mod_lt _ (by omega))]
                  exact ⟨t + 1, _, true, by go_num, rfl, by omega, HN.out, hst, hg.setOther hb (by decide) _, hp.setOther hb (by decide) _, hbel.setCell (p := ⟨gb, fr + (f + t) / 8, none⟩) hgb.1 _⟩
                case measure => simp [intOf]; omega
              · have hb0 : turns / 2 ^ t % 2 = 0 := by omega
                have hb1 : bits .and .u32 ((turns : Int) / 2 ^ t) 1 = 0 := by rw [bit_and turns t hturns, hb0]; rfl
                have HN := Lib.hid (hs0.out hb0)
                clear hbit hb0
                go_wp2
                go_roundw
                case rel => exact ⟨t + 1, bs, tb, by go_num, rfl, by omega, HN.out, hb, hg, hp, hbel⟩
                case measure => simp [intOf]; omega
        · cases tb with
          | false =>
            go_wp2
            go_ret
            exact ⟨rfl, b01.trans (hbel.mono b01.size)⟩
          | true =>
            obtain ⟨hbl, hscan⟩ := turn_end Hok.out hpl HPRE.out.1 HPRE.out.2.1 (by have := HPRE.out.2.2.1; have := HS8.out; omega) hturns hat.out
            have hbM : M = bs.length := by
              have := congrArg List.length HPRE.out.2.2.2.2
              rw [List.length_append, List.length_append, ← HM.out] at this
              omega
            have hkl : k = (G.take k).length := by rw [List.length_take]; have := Hq.out; omega
            have HSC := Lib.hid (scan_g (G := G.take k) (q := k) (M := F0) hscan hkl HF0.out M hbM)
            have HLN2 := Lib.hid (lent_o bs M hbM (some ⟨gb, 0, none⟩) cb wr.heap.size wr hb.rd (by omega))
            have HLG := Lib.hid (lists_g (G.take k) k k hkl hkl (by omega))
            have HGL := Lib.hid (fun (w' : World) (hb : Below wr.heap.size wr w') => ((hpv.ll hg hbel (Nat.le_refl _)).take k).own hb (Nat.le_refl _))
            have hco : (k : Int) ≤ (co : Int) := (by rcases hg.form with ⟨_, h0, h1⟩ | ⟨_, _, _, _, h0⟩ <;> omega)
            have hgpl := (hp.blk_ge (g := gp) rfl).2
            have HBM := Lib.hid hbM
            clear hbM hkl hbl hscan
            by_cases hk0 : 0 < k
            · obtain ⟨m, hm⟩ : ∃ m, k = m + 1 := ⟨k - 1, by omega⟩
              have hk1 : (k : Int) - 1 = (m : Int) := by omega
              have HCM := Lib.hid (fun (w' : World) (hb : Below wr.heap.size wr w') => show w'.cell? ⟨gp, m, none⟩ = some (.int .i64 (F0 : Int)) by
                rw [hb.cell (p := ⟨gp, m, none⟩) hgpl]
                have hmG : m < G.length := by omega
                obtain ⟨a, ha, _, hc⟩ := hp.rd m (.int .i64 (F0 : Int)) (by
                  have := ends_get G 0 m hmG
                  simp only [endsV, List.getElem?_map, List.getElem?_eq_getElem (show m < (ends 0 G).length by rw [ends_len]; exact hmG), Option.map_some, this]
                  rw [← hm, ← HF0.out, Nat.zero_add])
                obtain rfl := Option.some.inj ha
                rw [Addr.add_lit, Nat.zero_add] at hc
                exact hc)
              have Hm := Lib.hid hm
              clear hm
              go_wp2_with (first
                | (go_at_call 17; refine HLN2.out.mono ?_; rintro e w3 ⟨g3, k3, rfl, h3, hk3, b3⟩)
                | (go_at_call 27; refine (HSC.out _ k3 (fun h => by cases h) hk3 (by have := HBM.out; omega) w3 h3.rd).mono ?_; rintro e w4 ⟨O4, k4, rfl, h4, b4⟩; have b34 := b3.trans (b4.mono b3.size); have hcm4 := HCM.out w4 b34)
                | (go_at_call 29; refine (HLG.out O4 (some ⟨go, 0, none⟩) k4 co w4.heap.size w4 h4 (HGL.out w4 b34)).mono ?_; rintro e w5 ⟨rfl, r5, rfl⟩)
                | fail)
              go_ret
              exact ⟨rfl, below_drewN (b01.trans ((hbel.trans (b34.mono hbel.size)).mono b01.size)) r5⟩
            · have hF00 : ((F0 : Int) == 0) = true := by
                have hkz : k = 0 := by omega
                have := HF0.out
                rw [hkz] at this
                simp [this, catF]
              go_wp2_with (first
                | (go_at_call 17; refine HLN2.out.mono ?_; rintro e w3 ⟨g3, k3, rfl, h3, hk3, b3⟩)
                | (go_at_call 27; refine (HSC.out _ k3 (fun h => by cases h) hk3 (by have := HBM.out; omega) w3 h3.rd).mono ?_; rintro e w4 ⟨O4, k4, rfl, h4, b4⟩; have b34 := b3.trans (b4.mono b3.size))
                | (go_at_call 29; refine (HLG.out O4 (some ⟨go, 0, none⟩) k4 co w4.heap.size w4 h4 (HGL.out w4 b34)).mono ?_; rintro e w5 ⟨rfl, r5, rfl⟩)
                | fail)
              go_ret
              exact ⟨rfl, below_drewN (b01.trans ((hbel.trans (b34.mono hbel.size)).mono b01.size)) r5⟩
      · cases tb with
        | false =>
          go_wp2
          go_ret
          exact ⟨rfl, b01.trans (hbel.mono b01.size)⟩
        | true =>
          obtain ⟨hbl, hscan⟩ := turn_end Hok.out hpl HPRE.out.1 HPRE.out.2.1 (by have := HPRE.out.2.2.1; have := HS8.out; omega) hturns hat.out
          have hbM : M = bs.length := by
            have := congrArg List.length HPRE.out.2.2.2.2
            rw [List.length_append, List.length_append, ← HM.out] at this
            omega
          have hkl : k = (G.take k).length := by rw [List.length_take]; have := Hq.out; omega
          have HSC := Lib.hid (scan_g (G := G.take k) (q := k) (M := F0) hscan hkl HF0.out M hbM)
          have HLN2 := Lib.hid (lent_o bs M hbM (some ⟨gb, 0, none⟩) cb wr.heap.size wr hb.rd (by omega))
          have HLG := Lib.hid (lists_g (G.take k) k k hkl hkl (by omega))
          have HGL := Lib.hid (fun (w' : World) (hb : Below wr.heap.size wr w') => ((hpv.ll hg hbel (Nat.le_refl _)).take k).own hb (Nat.le_refl _))
          have hco : (k : Int) ≤ (co : Int) := (by rcases hg.form with ⟨_, h0, h1⟩ | ⟨_, _, _, _, h0⟩ <;> omega)
          have hgpl := (hp.blk_ge (g := gp) rfl).2
          have HBM := Lib.hid hbM
          clear hbM hkl hbl hscan
          by_cases hk0 : 0 < k
          · obtain ⟨m, hm⟩ : ∃ m, k = m + 1 := ⟨k - 1, by omega⟩
            have hk1 : (k : Int) - 1 = (m : Int) := by omega
            have HCM := Lib.hid (fun (w' : World) (hb : Below wr.heap.size wr w') => show w'.cell? ⟨gp, m, none⟩ = some (.int .i64 (F0 : Int)) by
              rw [hb.cell (p := ⟨gp, m, none⟩) hgpl]
              have hmG : m < G.length := by omega
              obtain ⟨a, ha, _, hc⟩ := hp.rd m (.int .i64 (F0 : Int)) (by
                have := ends_get G 0 m hmG
                simp only [endsV, List.getElem?_map, List.getElem?_eq_getElem (show m < (ends 0 G).length by rw [ends_len]; exact hmG), Option.map_some, this]
                rw [← hm, ← HF0.out, Nat.zero_add])
              obtain rfl := Option.some.inj ha
              rw [Addr.add_lit, Nat.zero_add] at hc
              exact hc)
            have Hm := Lib.hid hm
            clear hm
            go_wp2_with (first
              | (go_at_call 17; refine HLN2.out.mono ?_; rintro e w3 ⟨g3, k3, rfl, h3, hk3, b3⟩)
              | (go_at_call 27; refine (HSC.out _ k3 (fun h => by cases h) hk3 (by have := HBM.out; omega) w3 h3.rd).mono ?_; rintro e w4 ⟨O4, k4, rfl, h4, b4⟩; have b34 := b3.trans (b4.mono b3.size); have hcm4 := HCM.out w4 b34)
              | (go_at_call 29; refine (HLG.out O4 (some ⟨go, 0, none⟩) k4 co w4.heap.size w4 h4 (HGL.out w4 b34)).mono ?_; rintro e w5 ⟨rfl, r5, rfl⟩)
              | fail)
            go_ret
            exact ⟨rfl, below_drewN (b01.trans ((hbel.trans (b34.mono hbel.size)).mono b01.size)) r5⟩
          · have hF00 : ((F0 : Int) == 0) = true := by
              have hkz : k = 0 := by omega
              have := HF0.out
              rw [hkz] at this
              simp [this, catF]
            go_wp2_with (first
              | (go_at_call 17; refine HLN2.out.mono ?_; rintro e w3 ⟨g3, k3, rfl, h3, hk3, b3⟩)
              | (go_at_call 27; refine (HSC.out _ k3 (fun h => by cases h) hk3 (by have := HBM.out; omega) w3 h3.rd).mono ?_; rintro e w4 ⟨O4, k4, rfl, h4, b4⟩; have b34 := b3.trans (b4.mono b3.size))
              | (go_at_call 29; refine (HLG.out O4 (some ⟨go, 0, none⟩) k4 co w4.heap.size w4 h4 (HGL.out w4 b34)).mono ?_; rintro e w5 ⟨rfl, r5, rfl⟩)
              | fail)
            go_ret
            exact ⟨rfl, below_drewN (b01.trans ((hbel.trans (b34.mono hbel.size)).mono b01.size)) r5⟩
  · rcases (show q = 0 ∨ (0 < q ∧ turns = 0) by omega) with hz | ⟨hq0, hz⟩
    · have hq1 : ((q : Int) == 0) = true := by simp [hz]
      clear hz
      go_enter Try.func8, Try.ntmps8
      go_wp2_with (first
        | (go_at_call 30; refine (awake_any _).mono ?_; rintro e w1 ⟨rfl, b1⟩; have b01 := hbox.trans (b1.mono hbox.size); have c0 := (b1.cell (p := ⟨w.heap.size, 0, none⟩) (by simp)); have c1 := (b1.cell (p := ⟨w.heap.size, 1, none⟩) (by simp)); have c2 := (b1.cell (p := ⟨w.heap.size, 2, none⟩) (by simp)); have c3 := (b1.cell (p := ⟨w.heap.size, 3, none⟩) (by simp)))
        | (go_at_call 32; refine (HF.out w1 b01).mono ?_; rintro e w2 ⟨Ab, cb, O, co, P, cp, vs, rfl, hb, hg, hpv, hp, b2⟩)
        | fail)
      go_ret
      exact ⟨rfl, b01.trans (b2.mono b01.size)⟩
    · subst hz
      have hq1 : ((q : Int) == 0) = false := by simp; omega
      go_enter Try.func8, Try.ntmps8
      go_wp2_with (first
        | (go_at_call 30; refine (awake_any _).mono ?_; rintro e w1 ⟨rfl, b1⟩; have b01 := hbox.trans (b1.mono hbox.size); have c0 := (b1.cell (p := ⟨w.heap.size, 0, none⟩) (by simp)); have c1 := (b1.cell (p := ⟨w.heap.size, 1, none⟩) (by simp)); have c2 := (b1.cell (p := ⟨w.heap.size, 2, none⟩) (by simp)); have c3 := (b1.cell (p := ⟨w.heap.size, 3, none⟩) (by simp)))
        | (go_at_call 32; refine (HF.out w1 b01).mono ?_; rintro e w2 ⟨Ab, cb, O, co, P, cp, vs, rfl, hb, hg, hpv, hp, b2⟩)
        | fail)
      go_ret
      exact ⟨rfl, b01.trans (b2.mono b01.size)⟩

end Go.Proofs.Ytbhjcfhpabnadaa
