/-
  The walk of turnpikeref19.Reader's Feed.
-/
import Derived.Test.YtbhjcfhpabnadaaFeedW
namespace Go.Proofs.Ytbhjcfhpabnadaa
open Go.RowKit

attribute [local go_sem] drewN_setCell drewN_alloc World.drewN_drewN

theorem dec38o {b : List UInt8} {N E : Int} (h : decT b = (none, N, E)) (n : Nat) (hn : n = b.length) (A : Option Addr) (c : Nat) (hc : n ≤ c) (w : World) (hr : Rd w w.heap.size A (bv b)) (hl : n ≤ 16777216) :
    Calls Try.prog 38 #[.slice A n c] w fun e w' => Below w.heap.size w w' ∧ e = .returned (.tuple #[.agg #[.int .i64 0, .string ⟨#[]⟩, .int .i64 0, .int .i64 0, .int .i64 0, .int .i64 0, .string ⟨#[]⟩], .int .i64 N, .int .i64 E]) := by
  refine (rdecode_any b n hn A c hc w hr hl).mono fun e w' h2 => ⟨h2.1, ?_⟩
  rw [h2.2, h]
  rfl
theorem dec38s {b : List UInt8} {N E kd ve fr no er : Int} {nm tx : ByteArray} (h : decT b = (some ⟨kd, nm, ve, fr, no, er, tx⟩, N, E)) (n : Nat) (hn : n = b.length) (A : Option Addr) (c : Nat) (hc : n ≤ c) (w : World) (hr : Rd w w.heap.size A (bv b)) (hl : n ≤ 16777216) :
    Calls Try.prog 38 #[.slice A n c] w fun e w' => Below w.heap.size w w' ∧ e = .returned (.tuple #[.agg #[.int .i64 kd, .string nm, .int .i64 ve, .int .i64 fr, .int .i64 no, .int .i64 er, .string tx], .int .i64 N, .int .i64 E]) := by
  refine (rdecode_any b n hn A c hc w hr hl).mono fun e w' h2 => ⟨h2.1, ?_⟩
  rw [h2.2, h]
  rfl

theorem Own.madeAt {w : World} {base e size g : Nat} (hg : g = w.heap.size) (h : base ≤ g) : Own (w.alloc (.cells #[] e)) base e size (some ⟨g, 0, none⟩) 0 0 [] := by
  subst hg
  exact Own.made h

/-- In the reference's loop: k bytes were read. -/
def RFAt (w : World) (g : Nat) (A : Option Addr) (K cA : Nat) (A2 : Option Addr) (N c2 : Nat) (all : List UInt8) (wr : World) (k : Nat) (done : List Msg) (O : Option Addr) (co : Nat) : Prop :=
  wr.heap[g]? = some (.cells #[.slice A K cA, .bool false] 73 (0, 0)) ∧ Own wr w.heap.size 5 1 A2 N c2 (bv all) ∧ Own wr w.heap.size 57 7 O done.length co (mv done) ∧
    parse all = (done ++ (parse (all.drop k)).1, (parse (all.drop k)).2) ∧ Below w.heap.size w wr ∧ 8 * done.length ≤ k

section
variable {g K cA N c2 co k : Nat} {A A2 O : Option Addr} {all p : List UInt8} {done : List Msg} {w wr : World} {s : RSt}

theorem rfeed_torn (H : RFAt w g A K cA A2 N c2 all wr k done O co) (hd : s.dead = false) (hall : all = s.waits ++ p) (hp : parse all = (done, all.drop k, false)) {w4 : World} (bx : Below wr.heap.size wr w4) {A4 : Option Addr} {c4 B4 n4 : Nat} (hn4 : n4 = (all.drop k).length) (hB : w.heap.size ≤ B4) (ho : Own w4 B4 5 1 A4 n4 c4 (bv (all.drop k))) :
    FeedOut 73 57 w g A (feedM s p) (feedR s p) (.returned (.tuple #[.slice O done.length co, .int .i64 0])) (w4.setCell ⟨g, 0, none⟩ (.slice A4 n4 c4)) := by
  subst hn4
  obtain ⟨h1, h2, h3, h4, h5, h6⟩ := H
  obtain ⟨e1, e2⟩ := feed_vals hd hall hp
  rw [e1, e2]
  have z4 := (bx.block g (lt_of_heap h1)).trans h1
  have h3' := h3.below bx (Nat.le_refl _)
  have ts := Tur.of_set w4 ⟨g, 0, none⟩ (.slice A4 (all.drop k).length c4)
  refine ⟨O, co, A4, rfl, h3'.tur ts fun k hk e => h3'.ne_blk z4 (by decide) (hk.trans (congrArg some e)), ⟨⟨c4, heap_set (i := 0) z4 _, (ho.base_le hB).tur ts fun k hk e => ho.ne_blk z4 (by decide) (hk.trans (congrArg some e))⟩, fun h => by cases h⟩, ((Tur.of_below _ h5).step bx).trans ts fun k _ e => .inl e⟩

theorem rfeed_bad (H : RFAt w g A K cA A2 N c2 all wr k done O co) (hd : s.dead = false) (hall : all = s.waits ++ p) (hp : parse all = (done, [], true)) {w4 : World} (bx : Below wr.heap.size wr w4) :
    FeedOut 73 57 w g A (feedM s p) (feedR s p) (.returned (.tuple #[.slice O done.length co, .int .i64 190])) ((w4.setCell ⟨g, 0, none⟩ (.slice none 0 0)).setCell ⟨g, 1, none⟩ (.bool true)) := by
  obtain ⟨h1, h2, h3, h4, h5, h6⟩ := H
  obtain ⟨e1, e2⟩ := feed_vals hd hall hp
  rw [e1, e2]
  have z4 := (bx.block g (lt_of_heap h1)).trans h1
  have h3' := h3.below bx (Nat.le_refl _)
  have ts := (Tur.of_set w4 ⟨g, 0, none⟩ (.slice none 0 0)).trans (Tur.of_set (w4.setCell ⟨g, 0, none⟩ (.slice none 0 0)) ⟨g, 1, none⟩ (.bool true)) fun k _ e => e
  refine ⟨O, co, none, rfl, h3'.tur ts fun k hk e => h3'.ne_blk z4 (by decide) (hk.trans (congrArg some e)), ⟨⟨0, heap_set (i := 1) (heap_set (i := 0) z4 _) _, Own.nil_ _ _ _ _⟩, fun _ => rfl⟩, ((Tur.of_below _ h5).step bx).trans ts fun k _ e => .inl e⟩

theorem rfeed_step (H : RFAt w g A K cA A2 N c2 all wr k done O co) {m : Msg} {j : Nat} (hj0 : 8 ≤ j) (hj : j ≤ (all.drop k).length) (hdec : decT (all.drop k) = (some m, (j : Int), 0)) {w4 w5 : World} (bx : Below wr.heap.size wr w4) {O' : Option Addr} {co' : Nat}
    (ho : Own w5 w.heap.size 57 7 O' (done.length + 1) co' (mv (done ++ [m]))) (hg : w4.grownBy w5 (blk O)) : RFAt w g A K cA A2 N c2 all w5 (k + j) (done ++ [m]) O' co' := by
  obtain ⟨h1, h2, h3, h4, h5, h6⟩ := H
  have z4 := (bx.block g (lt_of_heap h1)).trans h1
  have h3' := h3.below bx (Nat.le_refl _)
  have h2' := h2.below bx (Nat.le_refl _)
  refine ⟨(hg.block g (lt_of_heap z4) fun e => h3'.ne_blk z4 (by decide) e.symm).trans z4, h2'.kept hg (h2'.ne_ h3' (by decide)), by rw [List.length_append]; exact ho, ?_, ?_, ?_⟩
  · rw [h4, parse_msg hdec (by omega) hj, List.append_assoc, List.drop_drop]
    rfl
  · exact (h5.trans (bx.mono h5.size)).grown hg (Nat.le_trans h5.size bx.size) fun i hi => (h3.blk_ge hi).1
  · rw [List.length_append, List.length_singleton]
    omega
end

set_option maxRecDepth 100000 in
set_option maxHeartbeats 2000000 in
theorem rfeed_live (s : RSt) (hd : s.dead = false) (g base : Nat) (A : Option Addr) (w : World) (hr : Rdr w 73 base g A s) (p : List UInt8) (n : Nat) (hn : n = p.length) (S : Option Addr) (c B : Nat) (hp : Rd w B S (bv p)) (hB : B ≤ w.heap.size) (hl : s.waits.length + n ≤ 16777216) :
    Calls Try.prog 44 #[.pointer (some ⟨g, 0, none⟩), .slice S n c] w (FeedOut 73 57 w g A (feedM s p) (feedR s p)) := by
  obtain ⟨⟨cA, hg, hown⟩, _⟩ := hr
  rw [hd] at hg
  have hglt := lt_of_heap hg
  have x0 := cellAt hg (j := 0) rfl
  have x1 := cellAt hg (j := 1) rfl
  obtain ⟨K, hK⟩ : ∃ K, K = s.waits.length := ⟨_, rfl⟩
  rw [← hK] at hg hown x0 hl
  obtain ⟨N, hN⟩ : ∃ N, N = K + n := ⟨_, rfl⟩
  obtain ⟨all, hall⟩ : ∃ all, all = s.waits ++ p := ⟨_, rfl⟩
  have hlen : all.length = N := by rw [hall, List.length_append, hN, hK, hn]
  have HN := Lib.hid (And.intro hN.symm (And.intro hlen (And.intro hn hd)))
  have HA := Lib.hid hall
  have HG := Lib.hid hg
  have HK := Lib.hid hK
  clear hN hlen hK hall hn hd hg
  have tk : True := trivial
  go_enter Try.func44, Try.ntmps44
  go_wp2_with (first
    | (at_builtin; have _t := tk; go_loud (refine wpList_app rfl (.tmp 17) (.tmp 21) 22 rfl w.heap.size 5 1 1 Try.el22 none 0 0 [] rfl (Own.nil_ _ _ _ _) w.heap.size A K cA (bv s.waits) rfl hown.rd (by rw [bv_length, HK.out, Nat.mul_one]) (bv_one _) K (bv s.waits) (by omega) rfl (by omega) (by unfold maxLen; omega) (Nat.le_refl _) ?_); intro A1 c1 w1 h1 hg1 hat1; have b1 := (Below.refl w.heap.size w).grown hg1 (Nat.le_refl _) (by simp [blk]); clear tk _t hg1 hat1)
    | (at_builtin; go_loud (refine wpList_app rfl (.tmp 22) (.tmp 23) 22 rfl w.heap.size 5 1 1 Try.el22 A1 K c1 (bv s.waits) rfl h1 B S n c (bv p) rfl (hp.below (b1.mono hB)) (by rw [bv_length, HN.out.2.2.1, Nat.mul_one]) (bv_one p) N (bv all) HN.out.1 (by rw [HA.out, bv_append]) (by have := HN.out.1; omega) (by have := HN.out.1; unfold maxLen; omega) b1.size ?_); intro A2 c2 w2 h2 hg2 hat2; have b2 := below_own b1 hg2 h1 b1.size)
    | fail)
  have HAT : Hid (RFAt w g A K cA A2 N c2 all w2 0 [] none 0) := ⟨(b2.block g hglt).trans HG.out, h2, Own.nil_ _ _ _ _, by simp, b2, by simp⟩
  have hcap := own_cap h2
  have hcapN := own_capN h2
  clear h1 h2 hg2 hat2 b1 b2 hp x0 x1 hown
  go_loopw [6, 8] (fun v a wr => ∃ (k : Nat) (done : List Msg) (O : Option Addr) (co : Nat), k ≤ N ∧ a = .int .i64 k ∧ v = .slice O done.length co ∧ Hid (RFAt w g A K cA A2 N c2 all wr k done O co)) (fun _ a _ => N + 1 - (intOf a).toNat)
  case atStart => exact ⟨0, [], none, 0, Nat.zero_le _, rfl, rfl, HAT⟩
  case round =>
    obtain ⟨k, done, O, co, hk, rfl, rfl, H⟩ := hrel
    obtain ⟨h1, h2, h3, h4, h5, h6⟩ := H.out
    have hglr := lt_of_heap h1
    have x0 := cellAt h1 (j := 0) rfl
    have hN16 : N ≤ 16777216 := by have := HN.out.1; omega
    have hsz := h5.size
    obtain ⟨rest, hrest⟩ : ∃ rest, rest = all.drop k := ⟨_, rfl⟩
    obtain ⟨S1, hS1⟩ : ∃ S1, (if c2 = k then A2 else Option.map (fun x => x.add k) A2) = S1 := ⟨_, rfl⟩
    have HRd := Lib.hid (fun (W : World) (hb : Below wr.heap.size wr W) => show Rd W W.heap.size S1 (bv rest) from by
      have h := (h2.below hb (Nat.le_refl _)).rd.cut k c2 (by rw [bv_length, HN.out.2.1]; exact hcap)
      rw [hrest, ← hS1]
      simpa [bv, List.map_drop] using h)
    have hnk : N - k = rest.length := by rw [hrest, List.length_drop, HN.out.2.1]
    have hck : N - k ≤ c2 - k := by omega
    have HNK := Lib.hid hnk
    have hkI : (0 : Int) ≤ (k : Int) := by omega
    have hkI2 : (k : Int) ≤ (N : Int) := by omega
    have hrd := HRd.out wr (Below.refl _ _)
    have HR := Lib.hid hrest
    rw [← hrest] at h4
    rcases dec_three rest with ⟨hdT, hlT⟩ | ⟨hdB, _⟩ | ⟨⟨kd, nm, ve, fr, no, er, tx⟩, q, hdM, hm, hql, hqf, hq⟩
    · have D := Lib.hid (dec38o hdT (N - k) hnk S1 (c2 - k) hck wr hrd (by omega))
      have HP := Lib.hid (h4.trans (by rw [parse_torn hdT, List.append_nil]))
      have H1 := Lib.hid h1
      clear h1 h2 h3 h4 h5 h6 hrd hdT hnk hrest
      go_wp2_with (first
        | (go_at_call 38; go_loud (refine D.out.mono ?_); rintro e w3 ⟨b3, rfl⟩; have hs3 := b3.size)
        | (at_builtin; go_loud (refine wpList_app rfl (.tmp 36) (.tmp 39) 22 rfl wr.heap.size 5 1 1 Try.el22 (some ⟨w3.heap.size + 1, 0, none⟩) 0 0 [] rfl (Own.madeAt (w := w3.alloc (.cells #[.int .i64 0, .string ⟨#[]⟩, .int .i64 0, .int .i64 0, .int .i64 0, .int .i64 0, .string ⟨#[]⟩] 57)) (by simp) (by omega)) _ S1 (N - k) (c2 - k) (bv rest) rfl ((HRd.out _ (b3.alloc hs3 (.cells #[.int .i64 0, .string ⟨#[]⟩, .int .i64 0, .int .i64 0, .int .i64 0, .int .i64 0, .string ⟨#[]⟩] 57))).alloc (Nat.le_refl _) _) (by rw [bv_length, HNK.out, Nat.mul_one]) (bv_one rest) (N - k) (bv rest) (by omega) rfl (by omega) (by unfold maxLen; omega) (by simp; omega) ?_); intro A4 c4 w4 h4 hg4 hat4; have bx := below_own ((b3.alloc hs3 (.cells #[.int .i64 0, .string ⟨#[]⟩, .int .i64 0, .int .i64 0, .int .i64 0, .int .i64 0, .string ⟨#[]⟩] 57)).alloc (by simp; omega) _) hg4 (Own.madeAt (w := w3.alloc (.cells #[.int .i64 0, .string ⟨#[]⟩, .int .i64 0, .int .i64 0, .int .i64 0, .int .i64 0, .string ⟨#[]⟩] 57)) (base := wr.heap.size) (size := 1) (by simp) (by omega)) (by simp; omega); have z4 := (bx.block g hglr).trans H1.out; have y1 := cellAt z4 (j := 0) rfl; have f1 := frozenAt z4 (j := 0); clear z4 hg4 hat4)
        | fail)
      go_ret2
      exact rfeed_torn H.out HN.out.2.2.2 HA.out (by rw [← HR.out]; exact HP.out) bx (by rw [← HR.out]; exact HNK.out) hsz (by rw [← HR.out]; exact h4)
    · have D := Lib.hid (dec38o hdB (N - k) hnk S1 (c2 - k) hck wr hrd (by omega))
      have HP := Lib.hid (h4.trans (by rw [parse_bad hdB, List.append_nil]))
      have H1 := Lib.hid h1
      clear h1 h2 h3 h4 h5 h6 hrd hdB hnk hrest
      go_wp2_with (first
        | (go_at_call 38; go_loud (refine D.out.mono ?_); rintro e w3 ⟨b3, rfl⟩; have hs3 := b3.size; have z3 := (b3.block g hglr).trans H1.out; have y0 := cellAt z3 (j := 0) rfl; have y1 := cellAt z3 (j := 1) rfl; have f0 := frozenAt z3 (j := 0); have f1 := frozenAt z3 (j := 1); have hg3 : g < w3.heap.size := (by omega); clear z3)
        | fail)
      go_ret2
      exact (rfeed_bad H.out HN.out.2.2.2 HA.out HP.out b3).step ((Below.refl _ _).alloc (Nat.le_refl _) _)
    · obtain ⟨j, hj⟩ : ∃ j, j = 8 + q.length := ⟨_, rfl⟩
      rw [← hj] at hdM hql
      have hj8 : 8 ≤ j := by omega
      have hjN : k + j ≤ N := by omega
      have hkN : k < N := by omega
      rw [if_neg (show ¬ c2 = k by omega)] at hS1
      have D := Lib.hid (dec38s hdM (N - k) hnk S1 (c2 - k) hck wr hrd (by omega))
      have H3 := Lib.hid h3
      have HM := Lib.hid (show decT (all.drop k) = (some ⟨kd, nm, ve, fr, no, er, tx⟩, (j : Int), 0) by rw [← hrest]; exact hdM)
      have HQ := Lib.hid (show j ≤ (all.drop k).length by rw [← hrest]; exact hql)
      clear h1 h2 h3 h4 h5 hrd hdM hqf hm hj hq hnk hrest
      go_wp2_with (first
        | (go_at_call 38; go_loud (with_reducible refine D.out.mono ?_); rintro e w3 ⟨b3, rfl⟩; have hs3 := b3.size; have bx := b3.alloc hs3 (.cells #[.int .i64 kd, .string nm, .int .i64 ve, .int .i64 fr, .int .i64 no, .int .i64 er, .string tx] 57))
        | (at_builtin; go_loud (refine wpList_app_new rfl (.tmp 54) (.tmp 56) 78 rfl w.heap.size 57 7 72 Try.el78 O done.length co (mv done) rfl (H3.out.below bx (Nat.le_refl _)) #[.int .i64 kd, .string nm, .int .i64 ve, .int .i64 fr, .int .i64 no, .int .i64 er, .string tx] (w3.heap.size + 1) 1 1 (by simp) rfl rfl (msgC_one ⟨kd, nm, ve, fr, no, er, tx⟩) (done.length + 1) (mv (done ++ [⟨kd, nm, ve, fr, no, er, tx⟩])) rfl (by rw [mv_snoc]; rfl) (by omega) (by unfold maxLen; omega) (by simp; omega) ?_); intro O5 co5 w5 h5 hg5 hat5; clear hat5)
        | fail)
      go_roundw
      case rel => exact ⟨k + j, done ++ [⟨kd, nm, ve, fr, no, er, tx⟩], O5, co5, hjN, by go_num, by rw [List.length_append, List.length_singleton], (by
        have := rfeed_step H.out hj8 HQ.out HM.out bx h5 hg5
        exact this)⟩
      case measure => simp [intOf]; omega

set_option maxHeartbeats 400000 in
theorem rfeed_dead (s : RSt) (hd : s.dead = true) (g base : Nat) (A : Option Addr) (w : World) (hr : Rdr w 73 base g A s) (p : List UInt8) (n : Nat) (S : Option Addr) (c : Nat) :
    Calls Try.prog 44 #[.pointer (some ⟨g, 0, none⟩), .slice S n c] w (FeedOut 73 57 w g A (feedM s p) (feedR s p)) := by
  have HO := Lib.hid (dead_out (e7 := 57) hd hr p)
  obtain ⟨⟨cA, hg, _⟩, _⟩ := hr
  rw [hd] at hg
  have x1 := cellAt hg (j := 1) rfl
  clear hg hd
  go_enter Try.func44, Try.ntmps44
  go_wp2
  go_ret2
  exact HO.out

theorem rfeed_any (s : RSt) (g base : Nat) (A : Option Addr) (w : World) (hr : Rdr w 73 base g A s) (p : List UInt8) (n : Nat) (hn : n = p.length) (S : Option Addr) (c B : Nat) (hp : Rd w B S (bv p)) (hB : B ≤ w.heap.size) (hl : s.waits.length + n ≤ 16777216) :
    Calls Try.prog 44 #[.pointer (some ⟨g, 0, none⟩), .slice S n c] w (FeedOut 73 57 w g A (feedM s p) (feedR s p)) := by
  cases hd : s.dead with
  | false => exact rfeed_live s hd g base A w hr p n hn S c B hp hB hl
  | true => exact rfeed_dead s hd g base A w hr p n S c

end Go.Proofs.Ytbhjcfhpabnadaa
