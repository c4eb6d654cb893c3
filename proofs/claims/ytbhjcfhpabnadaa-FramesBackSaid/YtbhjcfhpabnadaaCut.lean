/-
  The walk of SumCut.
-/
import Derived.Test.YtbhjcfhpabnadaaFramedW
import Derived.Test.YtbhjcfhpabnadaaParts
namespace Go.Proofs.Ytbhjcfhpabnadaa
open Go.RowKit

theorem Own.shrink {w : World} {base e size n c m : Nat} {A : Option Addr} {xs : List Value} (h : Own w base e size A n c xs) (hm : m ≤ n) : Own w base e size A m c (xs.take (m * size)) := by
  have hms := Nat.mul_le_mul_right size hm
  refine ⟨by rw [List.length_take, h.len]; omega, ?_⟩
  rcases h.2 with ⟨hv, h0⟩ | ⟨g, cap, cur, hv, hb, hg, hc, hm2, hcs, hx⟩
  · injection hv with h1 h2 h3
    subst h1 h3
    have : m = 0 := by omega
    subst this
    exact .inl ⟨rfl, rfl⟩
  · injection hv with h1 h2 h3
    subst h1 h3
    exact .inr ⟨g, c, cur, rfl, hb, hg, by omega, hm2, hcs, by rw [← hx, List.take_take, Nat.min_eq_left hms]⟩

theorem Copy.own {w : World} {base g cap : Nat} {xs : List UInt8} (h : Copy w base g cap xs) {n : Nat} (hn : n = xs.length) : Own w base 5 1 (some ⟨g, 0, none⟩) n cap (bv xs) := by
  have := h.2.shrink (m := n) (by omega)
  rw [Nat.mul_one, hn] at this
  rw [hn]
  simpa [bv, List.take_append_of_le_length] using this

theorem framed_at (l G : List (List UInt8)) (M q : Nat) (hG : G = goods l) (hM : M = (catF G).length) (hq : q = G.length) (n : Nat) (hn : n = l.length) (A : Option Addr) (c : Nat) (w : World) (hl : LL w w.heap.size A l) (ht : totalB l ≤ 1048576) :
    Calls Try.prog 32 #[.slice A n c] w fun e w' => ∃ A c O co P cp vs, e = .returned (.tuple #[.slice A M c, .slice O q co, .slice P q cp]) ∧ Own w' w.heap.size 5 1 A M c (bv (catF G)) ∧
      Own w' w.heap.size 22 1 O q co vs ∧ PV w w.heap.size vs G ∧ Own w' w.heap.size 3 1 P q cp (endsV G) ∧ Below w.heap.size w w' := by
  subst hG hM hq
  exact framed_any l n hn A c w hl ht

theorem pays_of {b : List UInt8} {G : List (List UInt8)} (h : scanR 0 b = ends 0 G) : pays b = G := by
  unfold pays
  rw [h, ends_pays]

/-- What a scan leaves, said of the payloads. -/
def SG (w : World) (G : List (List UInt8)) (q M : Nat) (e : Ending) (w' : World) : Prop :=
  ∃ O c, e = .returned (.tuple #[.slice O q c, .int .i64 M]) ∧ LL w' w'.heap.size O G ∧ Below w.heap.size w w'

theorem scan_g {b : List UInt8} {G : List (List UInt8)} {q M : Nat} (h : scanR 0 b = ends 0 G) (hq : q = G.length) (hM : M = (catF G).length) (n : Nat) (hn : n = b.length) (A : Option Addr) (c : Nat) (hA : A = none → c = 0) (hc : n ≤ c) (hl : b.length ≤ 16777216) (w : World) (hr : Rd w w.heap.size A (bv b)) :
    Calls Try.prog 27 #[.slice A n c] w (SG w G q M) := by
  refine (scan_at b q M (by rw [h, ends_len, hq]) (by rw [h, ends_last, hM]) n hn A c hA hc hl w hr).mono ?_
  rintro e w' ⟨O, c, he, hO, hb⟩
  rw [pays_of h] at hO
  exact ⟨O, c, he, hO, hb⟩

theorem lists_g (G : List (List UInt8)) (n m : Nat) (hn : n = G.length) (hm : m = G.length) (hl : G.length ≤ 16777216) (A A' : Option Addr) (c c' B : Nat) (w : World) (h1 : LL w B A G) (h2 : LL w B A' G) :
    Calls Try.prog 29 #[.slice A n c, .slice A' m c'] w fun e w' => e = .returned (.bool true) ∧ ∃ k, w' = w.drewN k := lists_eq G n m hn hm hl A A' c c' B w h1 h2

/-- What lent leaves, with the row it may be appended to. -/
def LentO (w : World) (xs : List UInt8) (n : Nat) (e : Ending) (w' : World) : Prop :=
  ∃ g cap, e = .returned (.slice (some ⟨g, 0, none⟩) n cap) ∧ Own w' w.heap.size 5 1 (some ⟨g, 0, none⟩) n cap (bv xs) ∧ n ≤ cap ∧ Below w.heap.size w w'
theorem lent_o (xs : List UInt8) (n : Nat) (hn : n = xs.length) (A : Option Addr) (c B : Nat) (w : World) (hx : Rd w B A (bv xs)) (hl : n ≤ 16777216) :
    Calls Try.prog 17 #[.slice A n c] w (LentO w xs n) := by
  refine (lentN xs n hn A c B w hx hl).mono ?_
  rintro e w' ⟨g, cap, he, hc, hcap, hb⟩
  exact ⟨g, cap, he, hc.own hn, hcap, hb⟩

theorem next_e {tail : List UInt8} {N : Nat} (hN : N = tail.length) {A : Option Addr} {k B : Nat} {w : World} (hx : Rd w B A (bv tail)) (hB : B ≤ w.heap.size) (hk : N ≤ k) (hl : tail.length ≤ 1048576) :
    Calls Try.prog 18 #[.slice A N k] w fun e w' => ∃ A n c m, e = .returned (.tuple #[.slice A n c, .int .i64 m, .int .i64 (nxE (nextS tail))]) ∧ Below w.heap.size w w' := by
  refine (pnext_at tail N hN A k B w hx hB hk (by omega)).mono ?_
  rintro e w' ⟨A', c', rfl, _, hb⟩
  exact ⟨A', _, c', _, rfl, hb⟩

theorem LL.own {w w' : World} {B : Nat} {A : Option Addr} {G : List (List UInt8)} (h : LL w B A G) (hb : Below w.heap.size w w') (hB : B ≤ w.heap.size) : LL w' w'.heap.size A G := (h.below (hb.mono hB)).more (Nat.le_trans hB hb.size)

/-- How far the loop of SumCut has come. -/
def CutAt (G : List (List UInt8)) (k t : Nat) (en : Int) : Prop := (catF (G.take t)).length ≤ k ∧ en = (catF (G.take t)).length

theorem cut_end {G : List (List UInt8)} {M q k t N L : Nat} {v : Int} (hok : ∀ p ∈ G, p.length ≤ 131072) (hM : M = (catF G).length) (hq : q = G.length) (hk : k ≤ M) (ht : t ≤ q) (hat : CutAt G k t v) (hx : t < q → k < (catF (G.take (t + 1))).length)
    (hN : N = (scanR 0 ((catF G).take k)).length) (hL : L = lastK (scanR 0 ((catF G).take k))) : N = t ∧ v = (L : Int) ∧ pays ((catF G).take k) = G.take t := by
  have h := scan_cut hok (k := k) (m := t) (by omega) (by omega) hat.1 (fun h => hx (by omega))
  refine ⟨?_, ?_, pays_of h⟩
  · rw [hN, h, ends_len, List.length_take]
    omega
  · rw [hL, h, ends_last]
    exact hat.2

set_option maxRecDepth 100000 in
set_option maxHeartbeats 4000000 in
theorem cut_any (l : List (List UInt8)) (cut : Int) (tail : List UInt8) (A : Option Addr) (c : Nat) (T : Option Addr) (ct : Nat) (w : World) (hl : LL w w.heap.size A l) (ht : totalB l ≤ 1048576) (htl : tail.length ≤ 1048576) (hT : Rd w w.heap.size T (bv tail)) :
    Calls Try.prog 7 #[.slice A l.length c, .int .i64 cut, .slice T tail.length ct] w fun e w' => e = .returned (.bool true) ∧ Below w.heap.size w w' := by
  obtain ⟨G, hG⟩ : ∃ G, G = goods l := ⟨_, rfl⟩
  obtain ⟨M, hM⟩ : ∃ M, M = (catF G).length := ⟨_, rfl⟩
  obtain ⟨q, hq⟩ : ∃ q, q = G.length := ⟨_, rfl⟩
  obtain ⟨n, hn⟩ : ∃ n, n = l.length := ⟨_, rfl⟩
  obtain ⟨nt, hnt⟩ : ∃ nt, nt = tail.length := ⟨_, rfl⟩
  have hok : ∀ p ∈ G, p.length ≤ 131072 := by rw [hG]; exact goods_ok l
  have hGt : totalB G ≤ 1048576 := by rw [hG]; exact Nat.le_trans (goods_total l) ht
  have hMb : M ≤ 8388608 := by have := catF_bound G; omega
  have hqb : q ≤ 1048576 := by have := total_len G; omega
  have hntb : nt ≤ 1048576 := by omega
  have HF := Lib.hid (fun (w1 : World) (hb : Below w.heap.size w w1) => framed_at l G M q hG hM hq n hn A c w1 ((hl.below hb).more hb.size) ht)
  have HS := Lib.hid (fun (b : List UInt8) (h : scanR 0 b = ends 0 G) => scan_g (G := G) (q := q) (M := M) h hq hM)
  have HLG := Lib.hid (lists_g G q q hq hq (by omega))
  have HT := Lib.hid (fun (w1 : World) (hb : Below w.heap.size w w1) => lent_o tail nt hnt T ct w.heap.size w1 (hT.below hb) (by omega))
  have HTr := Lib.hid (fun (w1 : World) (hb : Below w.heap.size w w1) => hT.below hb)
  rw [← hn, ← hnt]
  have HM := Lib.hid hM
  have Hq := Lib.hid hq
  have Hn := Lib.hid hn
  have Hnt := Lib.hid hnt
  have Hok := Lib.hid hok
  clear hG hM hq hn hnt hok hl hT
  have tok1 : True := trivial
  have tok2 : True := trivial
  have tok3 : True := trivial
  have tok4 : True := trivial
  have tok5 : True := trivial
  have tok6 : True := trivial
  by_cases hbad : nextS tail = none
  · have HN := Lib.hid (fun (w1 : World) (A : Option Addr) (k : Nat) (hx : Rd w1 w1.heap.size A (bv tail)) (hk : nt ≤ k) => next_e Hnt.out hx (Nat.le_refl _) hk htl)
    rw [show nxE (nextS tail) = 10 by rw [hbad]; rfl] at HN
    have HST := Lib.hid (scan_tail Hok.out hbad)
    clear hbad
    go_enter Try.func7, Try.ntmps7
    go_wp2_with (first
      | (go_at_call 30; refine (awake_any w).mono ?_; rintro e w1 ⟨rfl, b1⟩)
      | (go_at_call 32; refine (HF.out w1 b1).mono ?_; rintro e w2 ⟨Ab, cb, O, co, P, cp, vs, rfl, hb, hg, hpv, hp, b2⟩; have d2 := b1.trans (b2.mono b1.size); have hgl := hpv.ll hg b2 (Nat.le_refl _))
      | (go_at_call 17; have _t := tok1; refine (lent_o (catF G) M HM.out Ab cb w2.heap.size w2 hb.rd (by omega)).mono ?_; rintro e w3 ⟨g3, k3, rfl, h3, hk3, b3⟩; clear tok1 _t)
      | (go_at_call 27; have _t := tok2; refine (HS.out _ (scan_all Hok.out) M HM.out _ k3 (fun h => by cases h) hk3 (by have := HM.out; omega) w3 h3.rd).mono ?_; rintro e w4 ⟨O4, k4, rfl, h4, b4⟩; clear tok2 _t; have b34 := b3.trans (b4.mono b3.size))
      | (go_at_call 29; have _t := tok3; refine (HLG.out O4 O k4 co w4.heap.size w4 h4 (hgl.own b34 (Nat.le_refl _))).mono ?_; rintro e w5 ⟨rfl, r5, rfl⟩; clear tok3 _t; have d4 := below_drewN (d2.trans (b34.mono d2.size)) r5; have b24 := below_drewN b34 r5)
      | (go_at_call 17; have _t := tok4; refine (HT.out _ d4).mono ?_; rintro e w6 ⟨g6, k6, rfl, h6, hk6, b6⟩; clear tok4 _t)
      | (go_at_call 18; refine (HN.out w6 _ k6 h6.rd hk6).mono ?_; rintro e w7 ⟨A7, n7, c7, m7, rfl, b7⟩; have b27 := (b24.trans (b6.mono b24.size)).trans (b7.mono (b24.trans (b6.mono b24.size)).size))
      | (go_at_call 17; have _t := tok5; refine (lent_o (catF G) M HM.out Ab cb w7.heap.size w7 (hb.below b27 (Nat.le_refl _)).rd (by omega)).mono ?_; rintro e w8 ⟨g8, k8, rfl, h8, hk8, b8⟩; clear tok5 _t; have b28 := b27.trans (b8.mono b27.size); have d8 := d2.trans (b28.mono d2.size))
      | (at_builtin; (refine wpList_app rfl (.tmp 57) (.tmp 58) 22 rfl w7.heap.size 5 1 1 Try.el22 _ M k8 (bv (catF G)) rfl h8 w.heap.size T nt ct (bv tail) rfl (HTr.out _ d8) (by rw [bv_length, Nat.mul_one]; exact Hnt.out.symm) (bv_one _) (M + nt) (bv (catF G ++ tail)) rfl (by rw [bv_append]) (by omega) (by unfold maxLen; omega) b8.size ?_); intro A9 k9 w9 h9 hg9 at9; have b9 := below_own b8 hg9 h8 b8.size; have b29 := b27.trans (b9.mono b27.size); have hk9 : M + nt ≤ k9 := own_cap h9; have hA9 : A9 = none → k9 = 0 := by (rcases h9.form with ⟨_, _, h0⟩ | ⟨_, h0, _⟩; exact fun _ => h0; exact fun h => by rw [h0] at h; cases h))
      | (go_at_call 27; refine (HS.out (catF G ++ tail) HST.out (M + nt) (by rw [List.length_append, ← HM.out, ← Hnt.out]) A9 k9 hA9 hk9 (by rw [List.length_append, ← HM.out, ← Hnt.out]; omega) w9 h9.rd).mono ?_; rintro e wa ⟨Oa, ka, rfl, ha, ba⟩; have b2a := b29.trans (ba.mono b29.size))
      | (go_at_call 29; refine (HLG.out Oa O ka co wa.heap.size wa ha (hgl.own b2a (Nat.le_refl _))).mono ?_; rintro e wb ⟨rfl, rb, rfl⟩; have b2z := below_drewN b2a rb)
      | (go_at_call 31; refine (round_at cut M _ (by omega)).mono ?_; rintro e wc ⟨⟨k, hk, rfl⟩, rfl⟩; have hkc : (k : Int) ≤ (cb : Int) := (by have := own_cap hb; omega))
      | fail)
    have hlk : k = ((catF G).take k).length := by rw [List.length_take, ← HM.out]; omega
    obtain ⟨N2, hN2⟩ : ∃ N2, N2 = (scanR 0 ((catF G).take k)).length := ⟨_, rfl⟩
    obtain ⟨L2, hL2⟩ : ∃ L2, L2 = lastK (scanR 0 ((catF G).take k)) := ⟨_, rfl⟩
    have hrk := (hb.below b2z (Nat.le_refl _)).rd.take k
    rw [show (bv (catF G)).take k = bv ((catF G).take k) by simp [bv]] at hrk
    have HL := Lib.hid (lent_o ((catF G).take k) k hlk Ab cb _ _ hrk (by omega))
    have HSC := Lib.hid (scan_at ((catF G).take k) N2 L2 hN2 hL2 k hlk)
    have Hlk := Lib.hid hlk
    have HN2 := Lib.hid hN2
    have HL2 := Lib.hid hL2
    clear hlk hN2 hL2 hrk
    go_wp2_with (first
      | (go_at_call 17; refine HL.out.mono ?_; rintro e wd ⟨gd, kd, rfl, hd, hkd, bd⟩)
      | (go_at_call 27; refine (HSC.out _ kd (fun h => by cases h) hkd (by have := Hlk.out; omega) wd hd.rd).mono ?_; rintro e we ⟨Oe, ke, rfl, he, be⟩; have b2e := (b2z.trans (bd.mono b2z.size)).trans (be.mono (b2z.trans (bd.mono b2z.size)).size))
      | fail)
    have hpe := hp.below b2e (Nat.le_refl _)
    have hgcap : q ≤ co := (by rcases hg.form with ⟨_, h0, h1⟩ | ⟨_, _, _, _, h0⟩ <;> omega)
    go_loop [20, 21] (fun i en => ∃ (t : Nat) (v : Int), t ≤ q ∧ i = .int .i64 t ∧ en = .int .i64 v ∧ Hid (CutAt G k t v)) (fun i _ => q - (intOf i).toNat)
    case atStart => exact ⟨0, 0, Nat.zero_le _, rfl, rfl, ⟨by simp [catF], by simp [catF]⟩⟩
    case round =>
      obtain ⟨t, v, htq, rfl, rfl, hat⟩ := hrel
      by_cases hlt : t < q
      · obtain ⟨gp, rfl, _⟩ := hpe.form_pos (by omega)
        obtain ⟨E, hE⟩ : ∃ E, E = (catF (G.take (t + 1))).length := ⟨_, rfl⟩
        have hcell : we.cell? ⟨gp, t, none⟩ = some (.int .i64 (E : Int)) := by
          have hlt2 : t < G.length := by rw [← Hq.out]; exact hlt
          obtain ⟨a, ha, _, hc⟩ := hpe.rd t (.int .i64 (E : Int)) (by
            have := ends_get G 0 t hlt2
            simp only [endsV, List.getElem?_map, List.getElem?_eq_getElem (show t < (ends 0 G).length by rw [ends_len]; exact hlt2), Option.map_some, this, hE, Nat.zero_add])
          obtain rfl := Option.some.inj ha
          rw [Addr.add_lit, Nat.zero_add] at hc
          exact hc
        have HE := Lib.hid hE
        clear hE
        by_cases hle : E ≤ k
        · go_wp2
          go_round
          case rel => exact ⟨t + 1, E, by omega, by go_num, rfl, ⟨by rw [← HE.out]; exact hle, by rw [← HE.out]⟩⟩
          case measure => simp [intOf]; omega
        · have HX := Lib.hid (show t < q → k < (catF (G.take (t + 1))).length from fun _ => by rw [← HE.out]; omega)
          obtain ⟨e1, e2, e3⟩ := cut_end Hok.out HM.out Hq.out hk htq hat.out HX.out HN2.out HL2.out
          obtain rfl : N2 = t := e1
          obtain rfl : v = (L2 : Int) := e2
          have HLS := Lib.hid (lists_g (G.take N2) N2 N2 (by rw [List.length_take, ← Hq.out]; omega) (by rw [List.length_take, ← Hq.out]; omega) (by rw [List.length_take]; omega) Oe O ke co we.heap.size we (e3 ▸ he) ((hgl.own b2e (Nat.le_refl _)).take N2))
          have hco : (N2 : Int) ≤ (co : Int) := by have := hgcap; omega
          clear e3 hat HX
          go_wp2_with (first
            | (go_at_call 29; refine HLS.out.mono ?_; rintro e wf ⟨rfl, rf, rfl⟩)
            | fail)
          go_ret
          exact ⟨rfl, below_drewN (d2.trans (b2e.mono d2.size)) rf⟩
      · have HX := Lib.hid (show t < q → k < (catF (G.take (t + 1))).length from fun h => absurd h hlt)
        obtain ⟨e1, e2, e3⟩ := cut_end Hok.out HM.out Hq.out hk htq hat.out HX.out HN2.out HL2.out
        obtain rfl : N2 = t := e1
        obtain rfl : v = (L2 : Int) := e2
        have HLS := Lib.hid (lists_g (G.take N2) N2 N2 (by rw [List.length_take, ← Hq.out]; omega) (by rw [List.length_take, ← Hq.out]; omega) (by rw [List.length_take]; omega) Oe O ke co we.heap.size we (e3 ▸ he) ((hgl.own b2e (Nat.le_refl _)).take N2))
        have hco : (N2 : Int) ≤ (co : Int) := by have := hgcap; omega
        clear e3 hat HX
        go_wp2_with (first
          | (go_at_call 29; refine HLS.out.mono ?_; rintro e wf ⟨rfl, rf, rfl⟩)
          | fail)
        go_ret
        exact ⟨rfl, below_drewN (d2.trans (b2e.mono d2.size)) rf⟩
  · obtain ⟨p0, hp0⟩ : ∃ p0, nextS tail = some p0 := by
      cases h : nextS tail with
      | none => exact absurd h hbad
      | some p0 => exact ⟨p0, rfl⟩
    have HN := Lib.hid (fun (w1 : World) (A : Option Addr) (k : Nat) (hx : Rd w1 w1.heap.size A (bv tail)) (hk : nt ≤ k) => next_e Hnt.out hx (Nat.le_refl _) hk htl)
    rw [show nxE (nextS tail) = 0 by rw [hp0]; rfl] at HN
    clear hbad hp0 p0
    go_enter Try.func7, Try.ntmps7
    go_wp2_with (first
      | (go_at_call 30; refine (awake_any w).mono ?_; rintro e w1 ⟨rfl, b1⟩)
      | (go_at_call 32; refine (HF.out w1 b1).mono ?_; rintro e w2 ⟨Ab, cb, O, co, P, cp, vs, rfl, hb, hg, hpv, hp, b2⟩; have d2 := b1.trans (b2.mono b1.size); have hgl := hpv.ll hg b2 (Nat.le_refl _))
      | (go_at_call 17; have _t := tok1; refine (lent_o (catF G) M HM.out Ab cb w2.heap.size w2 hb.rd (by omega)).mono ?_; rintro e w3 ⟨g3, k3, rfl, h3, hk3, b3⟩; clear tok1 _t)
      | (go_at_call 27; have _t := tok2; refine (HS.out _ (scan_all Hok.out) M HM.out _ k3 (fun h => by cases h) hk3 (by have := HM.out; omega) w3 h3.rd).mono ?_; rintro e w4 ⟨O4, k4, rfl, h4, b4⟩; clear tok2 _t; have b34 := b3.trans (b4.mono b3.size))
      | (go_at_call 29; have _t := tok3; refine (HLG.out O4 O k4 co w4.heap.size w4 h4 (hgl.own b34 (Nat.le_refl _))).mono ?_; rintro e w5 ⟨rfl, r5, rfl⟩; clear tok3 _t; have d4 := below_drewN (d2.trans (b34.mono d2.size)) r5; have b24 := below_drewN b34 r5)
      | (go_at_call 17; have _t := tok4; refine (HT.out _ d4).mono ?_; rintro e w6 ⟨g6, k6, rfl, h6, hk6, b6⟩; clear tok4 _t)
      | (go_at_call 18; refine (HN.out w6 _ k6 h6.rd hk6).mono ?_; rintro e w7 ⟨A7, n7, c7, m7, rfl, b7⟩; have b2z := (b24.trans (b6.mono b24.size)).trans (b7.mono (b24.trans (b6.mono b24.size)).size))
      | (go_at_call 31; refine (round_at cut M _ (by omega)).mono ?_; rintro e wc ⟨⟨k, hk, rfl⟩, rfl⟩; have hkc : (k : Int) ≤ (cb : Int) := (by have := own_cap hb; omega))
      | fail)
    have hlk : k = ((catF G).take k).length := by rw [List.length_take, ← HM.out]; omega
    obtain ⟨N2, hN2⟩ : ∃ N2, N2 = (scanR 0 ((catF G).take k)).length := ⟨_, rfl⟩
    obtain ⟨L2, hL2⟩ : ∃ L2, L2 = lastK (scanR 0 ((catF G).take k)) := ⟨_, rfl⟩
    have hrk := (hb.below b2z (Nat.le_refl _)).rd.take k
    rw [show (bv (catF G)).take k = bv ((catF G).take k) by simp [bv]] at hrk
    have HL := Lib.hid (lent_o ((catF G).take k) k hlk Ab cb _ _ hrk (by omega))
    have HSC := Lib.hid (scan_at ((catF G).take k) N2 L2 hN2 hL2 k hlk)
    have Hlk := Lib.hid hlk
    have HN2 := Lib.hid hN2
    have HL2 := Lib.hid hL2
    clear hlk hN2 hL2 hrk
    go_wp2_with (first
      | (go_at_call 17; refine HL.out.mono ?_; rintro e wd ⟨gd, kd, rfl, hd, hkd, bd⟩)
      | (go_at_call 27; refine (HSC.out _ kd (fun h => by cases h) hkd (by have := Hlk.out; omega) wd hd.rd).mono ?_; rintro e we ⟨Oe, ke, rfl, he, be⟩; have b2e := (b2z.trans (bd.mono b2z.size)).trans (be.mono (b2z.trans (bd.mono b2z.size)).size))
      | fail)
    have hpe := hp.below b2e (Nat.le_refl _)
    have hgcap : q ≤ co := (by rcases hg.form with ⟨_, h0, h1⟩ | ⟨_, _, _, _, h0⟩ <;> omega)
    go_loop [20, 21] (fun i en => ∃ (t : Nat) (v : Int), t ≤ q ∧ i = .int .i64 t ∧ en = .int .i64 v ∧ Hid (CutAt G k t v)) (fun i _ => q - (intOf i).toNat)
    case atStart => exact ⟨0, 0, Nat.zero_le _, rfl, rfl, ⟨by simp [catF], by simp [catF]⟩⟩
    case round =>
      obtain ⟨t, v, htq, rfl, rfl, hat⟩ := hrel
      by_cases hlt : t < q
      · obtain ⟨gp, rfl, _⟩ := hpe.form_pos (by omega)
        obtain ⟨E, hE⟩ : ∃ E, E = (catF (G.take (t + 1))).length := ⟨_, rfl⟩
        have hcell : we.cell? ⟨gp, t, none⟩ = some (.int .i64 (E : Int)) := by
          have hlt2 : t < G.length := by rw [← Hq.out]; exact hlt
          obtain ⟨a, ha, _, hc⟩ := hpe.rd t (.int .i64 (E : Int)) (by
            have := ends_get G 0 t hlt2
            simp only [endsV, List.getElem?_map, List.getElem?_eq_getElem (show t < (ends 0 G).length by rw [ends_len]; exact hlt2), Option.map_some, this, hE, Nat.zero_add])
          obtain rfl := Option.some.inj ha
          rw [Addr.add_lit, Nat.zero_add] at hc
          exact hc
        have HE := Lib.hid hE
        clear hE
        by_cases hle : E ≤ k
        · go_wp2
          go_round
          case rel => exact ⟨t + 1, E, by omega, by go_num, rfl, ⟨by rw [← HE.out]; exact hle, by rw [← HE.out]⟩⟩
          case measure => simp [intOf]; omega
        · have HX := Lib.hid (show t < q → k < (catF (G.take (t + 1))).length from fun _ => by rw [← HE.out]; omega)
          obtain ⟨e1, e2, e3⟩ := cut_end Hok.out HM.out Hq.out hk htq hat.out HX.out HN2.out HL2.out
          obtain rfl : N2 = t := e1
          obtain rfl : v = (L2 : Int) := e2
          have HLS := Lib.hid (lists_g (G.take N2) N2 N2 (by rw [List.length_take, ← Hq.out]; omega) (by rw [List.length_take, ← Hq.out]; omega) (by rw [List.length_take]; omega) Oe O ke co we.heap.size we (e3 ▸ he) ((hgl.own b2e (Nat.le_refl _)).take N2))
          have hco : (N2 : Int) ≤ (co : Int) := by have := hgcap; omega
          clear e3 hat HX
          go_wp2_with (first
            | (go_at_call 29; refine HLS.out.mono ?_; rintro e wf ⟨rfl, rf, rfl⟩)
            | fail)
          go_ret
          exact ⟨rfl, below_drewN (d2.trans (b2e.mono d2.size)) rf⟩
      · have HX := Lib.hid (show t < q → k < (catF (G.take (t + 1))).length from fun h => absurd h hlt)
        obtain ⟨e1, e2, e3⟩ := cut_end Hok.out HM.out Hq.out hk htq hat.out HX.out HN2.out HL2.out
        obtain rfl : N2 = t := e1
        obtain rfl : v = (L2 : Int) := e2
        have HLS := Lib.hid (lists_g (G.take N2) N2 N2 (by rw [List.length_take, ← Hq.out]; omega) (by rw [List.length_take, ← Hq.out]; omega) (by rw [List.length_take]; omega) Oe O ke co we.heap.size we (e3 ▸ he) ((hgl.own b2e (Nat.le_refl _)).take N2))
        have hco : (N2 : Int) ≤ (co : Int) := by have := hgcap; omega
        clear e3 hat HX
        go_wp2_with (first
          | (go_at_call 29; refine HLS.out.mono ?_; rintro e wf ⟨rfl, rf, rfl⟩)
          | fail)
        go_ret
        exact ⟨rfl, below_drewN (d2.trans (b2e.mono d2.size)) rf⟩
end Go.Proofs.Ytbhjcfhpabnadaa
