/-
  The walk of frames.Reader's Feed.
-/
import Derived.Test.YtbhjcfhpabnadaaTur
namespace Go.Proofs.Ytbhjcfhpabnadaa
open Go.RowKit

attribute [local go_sem] drewN_setCell drewN_alloc World.drewN_drewN

def lenOf : Value → Nat
  | .slice _ n _ => n
  | _ => 0

theorem dec37o {b : List UInt8} {N E : Int} (h : decT b = (none, N, E)) (n : Nat) (hn : n = b.length) (A : Option Addr) (c : Nat) (hA : A = none → c = 0) (hc : n ≤ c) (w : World) (hr : Rd w w.heap.size A (bv b)) (hl : n ≤ 16777216) :
    Calls Try.prog 37 #[.slice A n c] w fun e w' => Below w.heap.size w w' ∧ e = .returned (.tuple #[.agg #[.int .i64 0, .string ⟨#[]⟩, .int .i64 0, .int .i64 0, .int .i64 0, .int .i64 0, .string ⟨#[]⟩], .int .i64 N, .int .i64 E]) := by
  refine (decode_any b n hn A c hA hc w hr (Nat.le_trans hl (by decide))).mono fun e w' h2 => ⟨h2.1, ?_⟩
  rw [h2.2, h]
  rfl
theorem dec37s {b : List UInt8} {N E kd ve fr no er : Int} {nm tx : ByteArray} (h : decT b = (some ⟨kd, nm, ve, fr, no, er, tx⟩, N, E)) (n : Nat) (hn : n = b.length) (A : Option Addr) (c : Nat) (hA : A = none → c = 0) (hc : n ≤ c) (w : World) (hr : Rd w w.heap.size A (bv b)) (hl : n ≤ 16777216) :
    Calls Try.prog 37 #[.slice A n c] w fun e w' => Below w.heap.size w w' ∧ e = .returned (.tuple #[.agg #[.int .i64 kd, .string nm, .int .i64 ve, .int .i64 fr, .int .i64 no, .int .i64 er, .string tx], .int .i64 N, .int .i64 E]) := by
  refine (decode_any b n hn A c hA hc w hr (Nat.le_trans hl (by decide))).mono fun e w' h2 => ⟨h2.1, ?_⟩
  rw [h2.2, h]
  rfl

/-- What Feed leaves. -/
def FeedOut (T e7 : Nat) (w : World) (g : Nat) (A : Option Addr) (l : List Msg) (s' : RSt) (e : Ending) (w' : World) : Prop :=
  ∃ O co A', e = .returned (.tuple #[.slice O l.length co, .int .i64 (deadE s'.dead)]) ∧ Own w' w.heap.size e7 7 O l.length co (mv l) ∧ Rdr w' T w.heap.size g A' s' ∧ Tur (fun k => k = g ∨ blk A = some k) w w'

/-- In the loop: some messages were read, some bytes are left. -/
def FeedAt (T e7 : Nat) (w : World) (g base : Nat) (A A2 : Option Addr) (N c2 : Nat) (all : List UInt8) (wr : World) (done : List Msg) (O : Option Addr) (co : Nat) (S : Option Addr) (c : Nat) (rest : List UInt8) : Prop :=
  wr.heap[g]? = some (.cells #[.slice S rest.length c, .bool false] T (0, 0)) ∧ Own wr base 5 1 A2 N c2 (bv all) ∧ Part base A2 N c2 all S c rest ∧ Own wr w.heap.size e7 7 O done.length co (mv done) ∧
    parse all = (done ++ (parse rest).1, (parse rest).2) ∧ Tur (fun k => k = g ∨ blk A = some k) w wr ∧ 8 * done.length + rest.length ≤ N

theorem feed_vals {s : RSt} {p all rest : List UInt8} {done : List Msg} {d : Bool} (hd : s.dead = false) (hall : all = s.waits ++ p) (h : parse all = (done, rest, d)) : feedM s p = done ∧ feedR s p = ⟨rest, d⟩ := by
  simp [feedM, feedR, hd, ← hall, h]

theorem FeedOut.step {T e7 g : Nat} {w w4 w5 : World} {A : Option Addr} {l : List Msg} {s' : RSt} {e : Ending} (h : FeedOut T e7 w g A l s' e w4) (hb : Below w4.heap.size w4 w5) : FeedOut T e7 w g A l s' e w5 := by
  obtain ⟨O, co, A', he, ho, hr, ht⟩ := h
  exact ⟨O, co, A', he, ho.below hb (Nat.le_refl _), hr.below hb, ht.step hb⟩

section
variable {T e7 g base N c2 co c1 : Nat} {A A2 O S1 : Option Addr} {all rest p : List UInt8} {done : List Msg} {w wr : World} {s : RSt}

theorem feed_torn (H : FeedAt T e7 w g base A A2 N c2 all wr done O co S1 c1 rest) (hT : 5 ≠ T ∧ e7 ≠ T) (hd : s.dead = false) (hall : all = s.waits ++ p) (hp : parse all = (done, rest, false)) {w4 : World} (bx : Below wr.heap.size wr w4) {A4 : Option Addr} {c4 B4 : Nat} (hB : w.heap.size ≤ B4) (ho : Own w4 B4 5 1 A4 rest.length c4 (bv rest)) :
    FeedOut T e7 w g A (feedM s p) (feedR s p) (.returned (.tuple #[.slice O done.length co, .int .i64 0])) (w4.setCell ⟨g, 0, none⟩ (.slice A4 rest.length c4)) := by
  obtain ⟨h1, h2, h3, h4, h5, h6, h7⟩ := H
  obtain ⟨e1, e2⟩ := feed_vals hd hall hp
  rw [e1, e2]
  have z4 := (bx.block g (lt_of_heap h1)).trans h1
  have h4' := h4.below bx (Nat.le_refl _)
  have ts := Tur.of_set w4 ⟨g, 0, none⟩ (.slice A4 rest.length c4)
  refine ⟨O, co, A4, rfl, h4'.tur ts fun k hk e => h4'.ne_blk z4 hT.2 (hk.trans (congrArg some e)), ⟨⟨c4, heap_set (i := 0) z4 _, (ho.base_le hB).tur ts fun k hk e => ho.ne_blk z4 hT.1 (hk.trans (congrArg some e))⟩, fun h => by cases h⟩, (h6.step bx).trans ts fun k _ e => .inl e⟩

theorem feed_bad (H : FeedAt T e7 w g base A A2 N c2 all wr done O co S1 c1 rest) (hT : 5 ≠ T ∧ e7 ≠ T) (hd : s.dead = false) (hall : all = s.waits ++ p) (hp : parse all = (done, [], true)) {w4 : World} (bx : Below wr.heap.size wr w4) :
    FeedOut T e7 w g A (feedM s p) (feedR s p) (.returned (.tuple #[.slice O done.length co, .int .i64 190])) ((w4.setCell ⟨g, 0, none⟩ (.slice none 0 0)).setCell ⟨g, 1, none⟩ (.bool true)) := by
  obtain ⟨h1, h2, h3, h4, h5, h6, h7⟩ := H
  obtain ⟨e1, e2⟩ := feed_vals hd hall hp
  rw [e1, e2]
  have z4 := (bx.block g (lt_of_heap h1)).trans h1
  have h4' := h4.below bx (Nat.le_refl _)
  have ts := (Tur.of_set w4 ⟨g, 0, none⟩ (.slice none 0 0)).trans (Tur.of_set (w4.setCell ⟨g, 0, none⟩ (.slice none 0 0)) ⟨g, 1, none⟩ (.bool true)) fun k _ e => e
  refine ⟨O, co, none, rfl, h4'.tur ts fun k hk e => h4'.ne_blk z4 hT.2 (hk.trans (congrArg some e)), ⟨⟨0, heap_set (i := 1) (heap_set (i := 0) z4 _) _, Own.nil_ _ _ _ _⟩, fun _ => rfl⟩, (h6.step bx).trans ts fun k _ e => .inl e⟩

theorem feed_step (H : FeedAt T e7 w g base A A2 N c2 all wr done O co S1 c1 rest) (hT : 5 ≠ T ∧ e7 ≠ T ∧ e7 ≠ 5) {m : Msg} {k : Nat} (hk0 : 8 ≤ k) (hk : k ≤ rest.length) (hdec : decT rest = (some m, (k : Int), 0)) {w4 w5 : World} (bx : Below wr.heap.size wr w4) {O' : Option Addr} {co' : Nat}
    (ho : Own w5 w.heap.size e7 7 O' (done.length + 1) co' (mv (done ++ [m]))) (hg : w4.grownBy w5 (blk O)) :
    FeedAt T e7 w g base A A2 N c2 all (w5.setCell ⟨g, 0, none⟩ (.slice (if c1 = k then S1 else S1.map (·.add k)) (rest.length - k) (c1 - k))) (done ++ [m]) O' co' (if c1 = k then S1 else S1.map (·.add k)) (c1 - k) (rest.drop k) := by
  obtain ⟨h1, h2, h3, h4, h5, h6, h7⟩ := H
  have z4 := (bx.block g (lt_of_heap h1)).trans h1
  have h4' := h4.below bx (Nat.le_refl _)
  have z5 := (hg.block g (lt_of_heap z4) fun e => h4'.ne_blk z4 hT.2.1 e.symm).trans z4
  have h2' := h2.below bx (Nat.le_refl _)
  have h25 := h2'.kept hg (h2'.ne_ h4' (Ne.symm hT.2.2))
  have ts := Tur.of_set w5 ⟨g, 0, none⟩ (.slice (if c1 = k then S1 else S1.map (·.add k)) (rest.length - k) (c1 - k))
  have hz := heap_set (i := 0) z5 (.slice (if c1 = k then S1 else S1.map (·.add k)) (rest.length - k) (c1 - k))
  refine ⟨by rw [List.length_drop]; exact hz, h25.tur ts fun j hj e => h25.ne_blk z5 hT.1 (hj.trans (congrArg some e)), h3.cut hk, ?_, ?_, ?_, ?_⟩
  · rw [List.length_append]
    exact ho.tur ts fun j hj e => ho.ne_blk z5 hT.2.1 (hj.trans (congrArg some e))
  · rw [h5, parse_msg hdec (by omega) hk, List.append_assoc]
    rfl
  · refine ((h6.step bx).trans (Tur.of_grown hg) fun j hj e => ?_).trans ts fun j _ e => .inl e
    have := (h4.blk_ge e.symm.symm).1
    omega
  · rw [List.length_append, List.length_drop, List.length_singleton]
    omega
end

set_option maxRecDepth 100000 in
set_option maxHeartbeats 2000000 in
theorem feed_live (s : RSt) (hd : s.dead = false) (g base : Nat) (A : Option Addr) (w : World) (hr : Rdr w 115 base g A s) (hb : base ≤ w.heap.size) (p : List UInt8) (n : Nat) (hn : n = p.length) (S : Option Addr) (c B : Nat) (hp : Rd w B S (bv p)) (hl : s.waits.length + n ≤ 16777216) :
    Calls Try.prog 43 #[.pointer (some ⟨g, 0, none⟩), .slice S n c] w (FeedOut 115 60 w g A (feedM s p) (feedR s p)) := by
  obtain ⟨⟨cA, hg, hown⟩, _⟩ := hr
  rw [hd] at hg
  have hglt := lt_of_heap hg
  have x0 := cellAt hg (j := 0) rfl
  have x1 := cellAt hg (j := 1) rfl
  have e0 := frozenAt hg (j := 0)
  obtain ⟨K, hK⟩ : ∃ K, K = s.waits.length := ⟨_, rfl⟩
  rw [← hK] at hg hown x0 hl
  obtain ⟨N, hN⟩ : ∃ N, N = K + n := ⟨_, rfl⟩
  obtain ⟨all, hall⟩ : ∃ all, all = s.waits ++ p := ⟨_, rfl⟩
  have hlen : all.length = N := by rw [hall, List.length_append, hN, hK, hn]
  have HN := Lib.hid (And.intro hN.symm (And.intro hlen (And.intro hn hd)))
  have HA := Lib.hid hall
  have HG := Lib.hid hg
  clear hN hlen hK hall hn hd hg
  go_enter Try.func43, Try.ntmps43
  go_wp2_with (first
    | (at_builtin; refine wpList_app rfl (.tmp 22) (.tmp 23) 22 rfl base 5 1 1 Try.el22 A K cA (bv s.waits) rfl hown B S n c (bv p) rfl hp (by rw [bv_length, HN.out.2.2.1, Nat.mul_one]) (bv_one p) N (bv all) HN.out.1 (by rw [HA.out, bv_append]) (by have := HN.out.1; omega) (by have := HN.out.1; unfold maxLen; omega) hb ?_; intro A2 c2 w2 hown2 hg2 hat2; have hgw := (hg2.block g hglt (fun e => hown.ne_blk HG.out (by decide) e.symm)).trans HG.out; have y0 := cellAt hgw (j := 0) rfl; have y1 := frozenAt hgw (j := 0))
    | fail)
  have hgs : (w2.setCell ⟨g, 0, none⟩ (.slice A2 N c2)).heap[g]? = some (.cells #[.slice A2 N c2, .bool false] 115 (0, 0)) := heap_set (i := 0) hgw (.slice A2 N c2)
  have HAT : Hid (FeedAt 115 60 w g base A A2 N c2 all (w2.setCell ⟨g, 0, none⟩ (.slice A2 N c2)) [] none 0 A2 c2 all) := by
    refine ⟨by rw [HN.out.2.1]; exact hgs, ?_, Part.whole hown2, Own.nil_ _ _ _ _, by simp, ?_, by have := HN.out.2.1; simp; omega⟩
    · exact hown2.tur (Tur.of_set w2 ⟨g, 0, none⟩ _) fun k hk e => hown2.ne_blk hgw (by decide) (hk.trans (congrArg some e))
    · exact ((Tur.of_grown hg2).mono fun k _ e => .inr e).trans (Tur.of_set w2 ⟨g, 0, none⟩ _) fun k _ e => .inl e
  have hbw := hg2.size
  clear hgs hgw y0 y1 hown2 hg2 hat2 hown hp x0 x1 e0
  go_loopw [6] (fun v wr => ∃ (done : List Msg) (O : Option Addr) (co : Nat) (S1 : Option Addr) (c1 : Nat) (rest : List UInt8), v = .slice O done.length co ∧ Hid (FeedAt 115 60 w g base A A2 N c2 all wr done O co S1 c1 rest)) (fun v _ => N + 1 - lenOf v)
  case atStart => exact ⟨[], none, 0, A2, c2, all, rfl, HAT⟩
  case round =>
    obtain ⟨done, O, co, S1, c1, rest, rfl, H⟩ := hrel
    obtain ⟨h1, h2, h3, h4, h5, h6, h7⟩ := H.out
    have hglr := lt_of_heap h1
    have x0 := cellAt h1 (j := 0) rfl
    have hrd := h3.1 wr h2
    have hN16 : N ≤ 16777216 := by have := HN.out.1; omega
    have hc1 := h3.2.2
    have hsz := h6.size
    rcases dec_three rest with ⟨hdT, hlT⟩ | ⟨hdB, _⟩ | ⟨⟨kd, nm, ve, fr, no, er, tx⟩, q, hdM, hm, hql, hqf, hq⟩
    · have D := Lib.hid (dec37o hdT rest.length rfl S1 c1 h3.2.1 hc1 wr hrd (by omega))
      have HP := Lib.hid (h5.trans (by rw [parse_torn hdT, List.append_nil]))
      have H1 := Lib.hid h1
      have HRd := Lib.hid (fun (W : World) (hb : Below wr.heap.size wr W) => h3.1 W (h2.below hb (Nat.le_refl _)))
      clear h1 h2 h3 h4 h5 h6 hrd hdT
      go_wp2_with (first
        | (go_at_call 37; refine D.out.mono ?_; rintro e w3 ⟨b3, rfl⟩; have z3 := (b3.block g hglr).trans H1.out; have y0 := cellAt z3 (j := 0) rfl; have hs3 := b3.size; have hg3 : g < w3.heap.size := by omega)
        | (go_at_call 53; refine (clone_at rest rest.length rfl S1 c1 _ _ (HRd.out _ (b3.alloc hs3 _)) (Nat.le_refl _) (by omega)).mono ?_; rintro e w4 ⟨A4, c4, rfl, h4, b4⟩; have bx := (b3.alloc hs3 _).trans (b4.mono (by simp; omega)); have hB4 := h4.base_le (base' := w.heap.size) (by simp; omega); have z4 := (bx.block g hglr).trans H1.out; have y1 := cellAt z4 (j := 0) rfl; have f1 := frozenAt z4 (j := 0); clear z4 h4 b4)
        | fail)
      go_ret2
      exact feed_torn H.out (by decide) HN.out.2.2.2 HA.out HP.out bx (Nat.le_refl _) hB4
    · have D := Lib.hid (dec37o hdB rest.length rfl S1 c1 h3.2.1 hc1 wr hrd (by omega))
      have HP := Lib.hid (h5.trans (by rw [parse_bad hdB, List.append_nil]))
      have H1 := Lib.hid h1
      clear h1 h2 h3 h4 h5 h6 hrd hdB
      go_wp2_with (first
        | (go_at_call 37; refine D.out.mono ?_; rintro e w3 ⟨b3, rfl⟩; have z3 := (b3.block g hglr).trans H1.out; have y0 := cellAt z3 (j := 0) rfl; have y1 := cellAt z3 (j := 1) rfl; have f0 := frozenAt z3 (j := 0); have f1 := frozenAt z3 (j := 1); have hs3 := b3.size; have hg3 : g < w3.heap.size := (by omega); have bx := b3.alloc hs3 (.cells #[.int .i64 0, .string ⟨#[]⟩, .int .i64 0, .int .i64 0, .int .i64 0, .int .i64 0, .string ⟨#[]⟩] 60); clear z3)
        | fail)
      go_ret2
      exact (feed_bad H.out (by decide) HN.out.2.2.2 HA.out HP.out b3).step ((Below.refl _ _).alloc (Nat.le_refl _) _)
    · obtain ⟨k, hk⟩ : ∃ k, k = 8 + q.length := ⟨_, rfl⟩
      rw [← hk] at hdM hql
      have hk8 : 8 ≤ k := by omega
      have D := Lib.hid (dec37s hdM rest.length rfl S1 c1 h3.2.1 hc1 wr hrd (by omega))
      have H1 := Lib.hid h1
      have H4 := Lib.hid h4
      have HM := Lib.hid hdM
      have hkI : (0 : Int) ≤ (k : Int) := by omega
      have hkI2 : (k : Int) ≤ (rest.length : Int) := by omega
      clear h1 h2 h3 h4 h5 h6 hrd hdM hqf hm hk hq
      go_wp2_with (first
        | (go_at_call 37; refine D.out.mono ?_; rintro e w3 ⟨b3, rfl⟩; have z3 := (b3.block g hglr).trans H1.out; have y0 := cellAt z3 (j := 0) rfl; have hs3 := b3.size; have hg3 : g < w3.heap.size := (by omega); have bx := b3.alloc hs3 (.cells #[.int .i64 kd, .string nm, .int .i64 ve, .int .i64 fr, .int .i64 no, .int .i64 er, .string tx] 60); clear z3)
        | (at_builtin; go_loud (refine wpList_app_new rfl (.tmp 57) (.tmp 59) 75 rfl w.heap.size 60 7 72 Try.el75 O done.length co (mv done) rfl (H4.out.below bx (Nat.le_refl _)) #[.int .i64 kd, .string nm, .int .i64 ve, .int .i64 fr, .int .i64 no, .int .i64 er, .string tx] (w3.heap.size + 1) 1 1 (by simp) rfl rfl (msgC_one ⟨kd, nm, ve, fr, no, er, tx⟩) (done.length + 1) (mv (done ++ [⟨kd, nm, ve, fr, no, er, tx⟩])) rfl (by rw [mv_snoc]; rfl) (by omega) (by unfold maxLen; omega) (by simp; omega) ?_); intro O5 co5 w5 h5 hg5 hat5; have z5 := (hg5.block g (by simp; omega) (fun e => (H4.out.below bx (Nat.le_refl _)).ne_blk ((bx.block g hglr).trans H1.out) (by decide) e.symm)).trans ((bx.block g hglr).trans H1.out); have y1 := cellAt z5 (j := 0) rfl; have f1 := frozenAt z5 (j := 0); clear z5 hat5)
        | fail)
      go_roundw
      case rel => exact ⟨done ++ [⟨kd, nm, ve, fr, no, er, tx⟩], O5, co5, if c1 = k then S1 else S1.map (·.add k), c1 - k, rest.drop k, by rw [List.length_append, List.length_singleton], by
        have := feed_step H.out (by decide) hk8 hql HM.out bx h5 hg5
        exact this⟩
      case measure => simp [lenOf]; omega

theorem dead_out {T e7 g base : Nat} {w : World} {A : Option Addr} {s : RSt} (hd : s.dead = true) (hr : Rdr w T base g A s) (p : List UInt8) : FeedOut T e7 w g A (feedM s p) (feedR s p) (.returned (.tuple #[.slice none 0 0, .int .i64 190])) w := by
  obtain ⟨⟨c, h1, h2⟩, h3⟩ := hr
  have hA := h3 hd
  subst hA
  have e1 : feedM s p = [] := by simp [feedM, hd]
  have e2 : feedR s p = s := by simp [feedR, hd]
  rw [e1, e2]
  refine ⟨none, 0, none, by rw [hd]; rfl, Own.nil_ _ _ _ _, ⟨⟨c, h1, ?_⟩, fun _ => rfl⟩, Tur.refl _ _⟩
  rcases h2.form with ⟨_, hn, hc⟩ | ⟨_, e, _⟩
  · have hw : s.waits = [] := List.eq_nil_of_length_eq_zero hn
    rw [hw, hc]
    exact Own.nil_ _ _ _ _
  · cases e

set_option maxHeartbeats 400000 in
theorem feed_dead (s : RSt) (hd : s.dead = true) (g base : Nat) (A : Option Addr) (w : World) (hr : Rdr w 115 base g A s) (p : List UInt8) (n : Nat) (S : Option Addr) (c : Nat) :
    Calls Try.prog 43 #[.pointer (some ⟨g, 0, none⟩), .slice S n c] w (FeedOut 115 60 w g A (feedM s p) (feedR s p)) := by
  have HO := Lib.hid (dead_out (e7 := 60) hd hr p)
  obtain ⟨⟨cA, hg, _⟩, _⟩ := hr
  rw [hd] at hg
  have x1 := cellAt hg (j := 1) rfl
  clear hg hd
  go_enter Try.func43, Try.ntmps43
  go_wp2
  go_ret2
  exact HO.out

theorem feed_any (s : RSt) (g base : Nat) (A : Option Addr) (w : World) (hr : Rdr w 115 base g A s) (hb : base ≤ w.heap.size) (p : List UInt8) (n : Nat) (hn : n = p.length) (S : Option Addr) (c B : Nat) (hp : Rd w B S (bv p)) (hl : s.waits.length + n ≤ 16777216) :
    Calls Try.prog 43 #[.pointer (some ⟨g, 0, none⟩), .slice S n c] w (FeedOut 115 60 w g A (feedM s p) (feedR s p)) := by
  cases hd : s.dead with
  | false => exact feed_live s hd g base A w hr hb p n hn S c B hp hl
  | true => exact feed_dead s hd g base A w hr p n S c

end Go.Proofs.Ytbhjcfhpabnadaa
