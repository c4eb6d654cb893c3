/-
  The walk of the function that script.Each answers.
-/
import Derived.Test.YtpafimjdlbnckaaDecIt
import Derived.Test.YtpafimjdlbnckaaClone
namespace Go.Proofs.Ytpafimjdlbnckaa
open Go.RowKit Go.Shelf

attribute [local go_sem] Oper.semAt_some

/-- What a counter's box holds. -/
def placeOf (w : World) (Ba : Nat) : Nat := match w.cell? ⟨Ba, 0, none⟩ with
  | some (.int _ z) => z.toNat
  | _ => 0
theorem placeOf_eq {w : World} {Ba p : Nat} (h : Boxed w Ba 3 (.int .i64 p)) : placeOf w Ba = p := by
  unfold placeOf
  rw [h.cell]
  simp

theorem next_at (b : List UInt8) (n p p' g : Nat) (hn : n = b.length) (hp' : p' = min (p + 1) n) (hg : g = gb b p) (hp : p ≤ n) (hl : n ≤ 16777216) (A : Option Addr) (c Ba Bx B : Nat) (w : World) (ha : Boxed w Ba 3 (.int .i64 p)) (hx : Boxed w Bx 24 (.slice A n c)) (hr : Rd w B A (bv b)) :
    Calls Try.prog 25 #[.pointer (some ⟨Ba, 0, none⟩), .pointer (some ⟨Bx, 0, none⟩)] w fun e w' => e = .returned (.int .i64 g) ∧ w.grownBy w' (some Ba) ∧ Boxed w' Ba 3 (.int .i64 p') := by
  subst hp' hg
  exact next_any b n p hn hp hl A c Ba Bx B w ha hx hr

/-- What the inner function needs and leaves, in one. -/
structure Pl (w0 : World) (Ba Bx n₀ : Nat) (A : Option Addr) (n c : Nat) (b : List UInt8) (w : World) (p : Nat) : Prop where
  gr : w0.grownBy w (some Ba)
  at_ : Boxed w Ba 3 (.int .i64 p)
  raw : Boxed w Bx 24 (.slice A n c)
  rd : Rd w n₀ A (bv b)
theorem Pl.step {w0 w w' : World} {Ba Bx n₀ n c p p' : Nat} {A : Option Addr} {b : List UInt8} (h : Pl w0 Ba Bx n₀ A n c b w p) (hg : w.grownBy w' (some Ba)) (ha : Boxed w' Ba 3 (.int .i64 p')) (hne : Bx ≠ Ba) (hn : n₀ ≤ Ba) (hs : n₀ ≤ w0.heap.size) : Pl w0 Ba Bx n₀ A n c b w' p' :=
  ⟨h.gr.trans hg, ha, gr_boxed hg h.raw hne, gr_rd hg h.rd hn (Nat.le_trans hs h.gr.size)⟩
theorem Pl.same {w0 w w' : World} {Ba Bx n₀ n c p : Nat} {A : Option Addr} {b : List UInt8} (h : Pl w0 Ba Bx n₀ A n c b w p) (hb : Below w.heap.size w w') (hs : n₀ ≤ w0.heap.size) : Pl w0 Ba Bx n₀ A n c b w' p :=
  ⟨h.gr.trans (gr_below hb), Boxed.low h.at_ hb, Boxed.low h.raw hb, h.rd.below (hb.mono (Nat.le_trans hs h.gr.size))⟩

theorem Pl.after {w0 w w' : World} {Ba Bx n₀ n c p : Nat} {A : Option Addr} {b : List UInt8} (h : Pl w0 Ba Bx n₀ A n c b w p) (hk : Kp (KeptM n₀ Bx Ba) w w') (hs : n₀ ≤ w0.heap.size) : Pl w' Ba Bx n₀ A n c b w' p :=
  ⟨World.grownBy.refl _ _, hk.boxed h.at_ (.inr (.inr rfl)), hk.boxed h.raw (.inr (.inl rfl)), hk.rd h.rd (fun _ h => .inl h) (Nat.le_trans hs h.gr.size)⟩

theorem Pl.data {w0 w : World} {Ba Bx n₀ n c p Bs : Nat} {A : Option Addr} {b : List UInt8} (h : Pl w0 Ba Bx n₀ A n c b w p) (hs : w0.heap.size ≤ Bs) (ha : Ba < Bs) (hx : Bx < Bs) (hn : n₀ ≤ Bs) (_hn0 : n₀ ≤ w0.heap.size) (u : Value) : Pl w0 Ba Bx n₀ A n c b (w.setCell ⟨Bs, 3, none⟩ u) p := by
  have hsm : ∀ k, k ≠ Bs → (w.setCell ⟨Bs, 3, none⟩ u).heap[k]? = w.heap[k]? := fun k hk => Below.heap_setCell _ _ _ _ hk
  refine ⟨⟨h.gr.os, h.gr.tape, h.gr.output, by simpa [World.setCell] using h.gr.size, fun k hk hne => ?_⟩, (hsm Ba (by omega)).trans h.at_, (hsm Bx (by omega)).trans h.raw, ?_⟩
  · rw [hsm k (by omega)]
    exact h.gr.block k hk hne
  · exact h.rd.below ((Below.refl n₀ w).setCell (p := ⟨Bs, 3, none⟩) hn _)
theorem Pl.move {w0 w : World} {Ba Bx n₀ n c p : Nat} {A : Option Addr} {b : List UInt8} (h : Pl w0 Ba Bx n₀ A n c b w p) (hne : Bx ≠ Ba) (hn : n₀ ≤ Ba) (hn0 : n₀ ≤ w0.heap.size) (p' : Nat) : Pl w0 Ba Bx n₀ A n c b (w.setCell ⟨Ba, 0, none⟩ (.int .i64 p')) p' :=
  h.step (grownBy_setCell' w Ba _) (Boxed.set _ h.at_) hne hn hn0

theorem clone_at (xs : List UInt8) (n : Nat) (hn : n = xs.length) (A : Option Addr) (c B : Nat) (w : World) (hx : Rd w B A (bv xs)) (hB : B ≤ w.heap.size) (hl : n ≤ 16777216) :
    Calls Try.prog 26 #[.slice A n c] w fun e w' => ∃ A' cap, e = .returned (.slice A' n cap) ∧ Go.Proofs.Ytpafimjdlbnckaa.Own w' w.heap.size 5 1 A' n cap (bv xs) ∧ Below w.heap.size w w' := by
  subst hn
  exact clone_any xs A c B w hx hB (by omega)

theorem step_box {w3 w6 w7 : World} {Ba : Nat} {cs : Array Value} {t : TypeId} (hg : (w3.alloc (.cells cs t)).grownBy w6 (some Ba)) (hb : Below w6.heap.size w6 w7) (hne : Ba ≠ w3.heap.size) : w7.heap[w3.heap.size]? = some (.cells cs t (0, 0)) := by
  have h0 := World.alloc_heap_new w3 (.cells cs t)
  have h1 := (hg.block w3.heap.size (by simp) (by simpa using Ne.symm hne)).trans h0
  exact (hb.block _ (Array.getElem?_eq_some_iff.1 h1).1).trans h1
theorem cells_at {w : World} {b j : Nat} {cs : Array Value} {t : TypeId} {v : Value} (h : w.heap[b]? = some (.cells cs t (0, 0))) (hj : cs[j]? = some v) : w.cell? ⟨b, j, none⟩ = some v := by
  unfold World.cell?
  simp only [h]
  simpa using hj
theorem frozen_at {w : World} {b j : Nat} {cs : Array Value} {t : TypeId} (h : w.heap[b]? = some (.cells cs t (0, 0))) : w.frozen? ⟨b, j, none⟩ = false := by
  unfold World.frozen?
  simp only [h]
  simp

theorem step_form {b : List UInt8} {p g0 g1 g2 o : Nat} (h0 : g0 = gb b p) (h1 : g1 = gb b (p + 1)) (h2 : g2 = gb b (p + 2)) (ho : o = g0 % 16) : stepL (b.drop p) = ⟨(o : Int), (g1 : Int), (g2 : Int), if carB (o : Int) = true then ((b.drop p).drop 5).take (saidN (b.drop p)) else []⟩ ∧ used (b.drop p) = if carB (o : Int) = true then 5 + saidN (b.drop p) else 3 := by
  have e : opN (b.drop p) = (o : Int) := by unfold opN; rw [gb_drop, Nat.add_zero, ← h0, ← ho]
  unfold stepL used
  rw [e, gb_drop, gb_drop, ← h1, ← h2]
  exact ⟨rfl, rfl⟩

set_option maxRecDepth 100000 in
set_option maxHeartbeats 4000000 in
theorem each1_some (b : List UInt8) (n : Nat) (hn : n = b.length) (hl : n ≤ 16777216) (A : Option Addr) (c n₀ Bx Ba : Nat) (_hA : A = none → c = 0) (hc : n ≤ c) (W : World) (hr : Rd W n₀ A (bv b)) (hn₀ : n₀ ≤ W.heap.size) (hB : Boxed W Bx 24 (.slice A n c)) (hBa : Ba = W.heap.size) :
    SeqR Try.prog 24 #[.pointer (some ⟨Bx, 0, none⟩)] El.encs (KeptM n₀ Bx Ba) (StepT Ba) (StepR Ba b) (AllS b) W := by
  intro l J Jx hY h0
  have hBx : Bx < Ba := by rw [hBa]; exact hB.lt
  have hneB : Bx ≠ Ba := by omega
  have hn₀' : n₀ ≤ Ba := by omega
  refine callsIn_of_wp Try.func24 rfl trivial ?_ rfl
  simp only [Try.ntmps24, List.size_toArray, List.length_cons, List.length_nil, Nat.reduceAdd, Nat.reduceSub, Array.replicate_succ, Array.replicate_zero, List.push_toArray, List.append_toArray, List.nil_append, List.cons_append]
  have Hn := Lib.hid hn
  clear hn
  have HBa := Lib.hid hBa
  clear hBa
  gi_wp2
  have hBa := HBa.out
  have hA0 := Boxed.new W 3 (.int .i64 0)
  rw [← hBa] at hA0 ⊢
  have hb0 : Below W.heap.size W (W.alloc (.cells #[.int .i64 0] 3)) := (Below.refl _ _).alloc (Nat.le_refl _) _
  have hBal : Ba ≤ W.heap.size := by omega
  clear hBa
  gi_loopw [] (fun wr => ∃ (p : Nat) (pre : List El) (W1 : World), p ≤ n ∧ Hid (Linked b p pre) ∧ J pre W1 ∧ n₀ ≤ W1.heap.size ∧ Ba ≤ W1.heap.size ∧ Pl W1 Ba Bx n₀ A n c b wr p) (fun wr => n - placeOf wr Ba)
  case atStart => exact ⟨0, [], W, Nat.zero_le _, rfl, h0, hn₀, hBal, gr_below hb0, hA0, Boxed.low hB hb0, hr.below (hb0.mono hn₀)⟩
  case round =>
    obtain ⟨p, pre, W1, hpn, hlink, hJ, hs1, hs2, hpl⟩ := hrel
    have ca := hpl.at_.cell
    have fa := hpl.at_.frozen
    have cx := hpl.raw.cell
    by_cases hlt : p < n
    · obtain ⟨p1, hp1⟩ : ∃ p1, p1 = min (p + 1) n := ⟨_, rfl⟩
      obtain ⟨p2, hp2⟩ : ∃ p2, p2 = min (p1 + 1) n := ⟨_, rfl⟩
      obtain ⟨p3, hp3⟩ : ∃ p3, p3 = min (p2 + 1) n := ⟨_, rfl⟩
      obtain ⟨g0, hg0⟩ : ∃ g0, g0 = gb b p := ⟨_, rfl⟩
      obtain ⟨g1, hg1⟩ : ∃ g1, g1 = gb b p1 := ⟨_, rfl⟩
      obtain ⟨g2, hg2⟩ : ∃ g2, g2 = gb b p2 := ⟨_, rfl⟩
      have N1 := Lib.hid (next_at b n p p1 g0 Hn.out hp1 hg0 hpn hl A c Ba Bx n₀)
      have N2 := Lib.hid (next_at b n p1 p2 g1 Hn.out hp2 hg1 (by omega) hl A c Ba Bx n₀)
      have N3 := Lib.hid (next_at b n p2 p3 g2 Hn.out hp3 hg2 (by omega) hl A c Ba Bx n₀)
      have b0 : g0 < 256 := by rw [hg0]; exact gb_lt _ _
      have b1 : g1 < 256 := by rw [hg1]; exact gb_lt _ _
      have b2 : g2 < 256 := by rw [hg2]; exact gb_lt _ _
      have HG := Lib.hid (show g0 = gb b p ∧ g1 = gb b (p + 1) ∧ g2 = gb b (p + 2) ∧ p3 = min (p + 3) n by
        have gbe : ∀ q r : Nat, q = min r n → gb b q = gb b r := fun q r h => by
          rcases Nat.lt_or_ge r n with h' | h'
          · rw [h, Nat.min_eq_left (by omega)]
          · rw [h, Nat.min_eq_right (by omega), gb_out (by rw [Hn.out]; exact Nat.le_refl _), gb_out (by rw [← Hn.out]; exact h')]
        exact ⟨hg0, by rw [hg1]; exact gbe _ _ hp1, by rw [hg2]; exact gbe _ _ (by omega), by omega⟩)
      have hp3n : p3 ≤ n := by omega
      have hp3p : p < p3 := by omega
      have t1 : True := trivial
      have t2 : True := trivial
      have t3 : True := trivial
      clear hp1 hp2 hp3 hg0 hg1 hg2
      obtain ⟨o, ho⟩ : ∃ o, o = g0 % 16 := ⟨_, rfl⟩
      have hand : bits .and .i64 (g0 : Int) 15 = (o : Int) := by rw [i64_and15, ho]; omega
      obtain ⟨hst, hus⟩ := step_form HG.out.1 HG.out.2.1 HG.out.2.2.1 ho
      have HST := Lib.hid (And.intro hst hus)
      clear ho hst hus
      have hpb : p < b.length := by rw [← Hn.out]; exact hlt
      cases hcar : carB (o : Int)
      · have HS := Lib.hid (show stepL (b.drop p) = ⟨(o : Int), (g1 : Int), (g2 : Int), []⟩ ∧ used (b.drop p) = 3 by
          rw [HST.out.1, HST.out.2, hcar]
          exact ⟨rfl, rfl⟩)
        gi_wp2_with (first
          | (refine ⟨trivial, ?_⟩; gi_at_call 25; have _t := t1; (refine (callsIn_wide.2 (N1.out _ hpl.at_ hpl.raw hpl.rd)).mono ?_); rintro e w1 ⟨rfl, gr1, at1⟩; clear t1 _t; have pl1 := hpl.step gr1 at1 hneB hn₀' hs1)
          | (refine ⟨trivial, ?_⟩; gi_at_call 25; have _t := t2; (refine (callsIn_wide.2 (N2.out _ pl1.at_ pl1.raw pl1.rd)).mono ?_); rintro e w2 ⟨rfl, gr2, at2⟩; clear t2 _t; have pl2 := pl1.step gr2 at2 hneB hn₀' hs1)
          | (refine ⟨trivial, ?_⟩; gi_at_call 25; have _t := t3; (refine (callsIn_wide.2 (N3.out _ pl2.at_ pl2.raw pl2.rd)).mono ?_); rintro e w3 ⟨rfl, gr3, at3⟩; clear t3 _t; have pl3 := pl2.step gr3 at3 hneB hn₀' hs1; have bs4 : Below w3.heap.size w3 (w3.alloc (.cells #[.int .i64 (o : Int), .int .i64 (g1 : Int), .int .i64 (g2 : Int), .slice none 0 0] 26)) := (Below.refl _ _).alloc (Nat.le_refl _) _; have pl4 := pl3.same bs4 hs1)
          | (refine ⟨trivial, ?_⟩; gi_at_call 19; (refine (callsIn_wide.2 (carries_any (o : Int) _)).mono ?_); rintro e w4 ⟨rfl, rfl⟩; obtain ⟨fn, tmps, assign, body, hy, hRd⟩ := hY pre ⟨p, none, 0, ⟨(o : Int), (g1 : Int), (g2 : Int), []⟩⟩ W1 _ hJ pl4.gr (rec_of hlink.out hpb rfl HS.out.1.symm (Own.nil_ _ _ _ _)); simp only [El.encs, El.sv, List.length_nil] at hy)
          | fail)
        refine hRd.mono ?_
        rintro e w8 (⟨rfl, hJ8, hk8⟩ | ⟨rfl, hx8⟩)
        · have pl8 := pl4.after hk8 hs1
          have hsz8 : W1.heap.size ≤ w8.heap.size := Nat.le_trans pl4.gr.size hk8.size
          gi_wp2
          go_roundw
          case rel => exact ⟨p3, _, w8, hp3n, link_of hlink.out hpb rfl HS.out.1.symm (by rw [HS.out.2, ← Hn.out]; exact HG.out.2.2.2), hJ8, Nat.le_trans hs1 hsz8, Nat.le_trans hs2 hsz8, pl8⟩
          case measure => rw [placeOf_eq pl8.at_, placeOf_eq hpl.at_]; omega
        · gi_wp2
          refine bodyPost_ret (results_none rfl _ _ _) rfl ?_
          exact ⟨⟨_, rfl⟩, .inr ⟨_, hx8⟩⟩
      · obtain ⟨p4, hp4⟩ : ∃ p4, p4 = min (p3 + 1) n := ⟨_, rfl⟩
        obtain ⟨p5, hp5⟩ : ∃ p5, p5 = min (p4 + 1) n := ⟨_, rfl⟩
        obtain ⟨g3, hg3⟩ : ∃ g3, g3 = gb b p3 := ⟨_, rfl⟩
        obtain ⟨g4, hg4⟩ : ∃ g4, g4 = gb b p4 := ⟨_, rfl⟩
        have N4 := Lib.hid (next_at b n p3 p4 g3 Hn.out hp4 hg3 hp3n hl A c Ba Bx n₀)
        have N5 := Lib.hid (next_at b n p4 p5 g4 Hn.out hp5 hg4 (by omega) hl A c Ba Bx n₀)
        have b3 : g3 < 256 := by rw [hg3]; exact gb_lt _ _
        have b4 : g4 < 256 := by rw [hg4]; exact gb_lt _ _
        have hor := i64_or_two b3 b4
        obtain ⟨nn, hnn⟩ : ∃ nn, nn = g3 + 256 * g4 := ⟨_, rfl⟩
        rw [← hnn] at hor
        have hp35 := HG.out.2.2.2
        have gbe : ∀ q r : Nat, q = min r n → gb b q = gb b r := fun q r h => by
          rcases Nat.lt_or_ge r n with h' | h'
          · rw [h, Nat.min_eq_left (by omega)]
          · rw [h, Nat.min_eq_right (by omega), gb_out (by rw [Hn.out]; exact Nat.le_refl _), gb_out (by rw [← Hn.out]; exact h')]
        have hsaid : saidN (b.drop p) = nn := by
          unfold saidN
          rw [gb_drop, gb_drop, hnn, hg3, hg4, gbe p3 (p + 3) hp35, gbe p4 (p + 4) (by omega)]
        have hp5' : p5 = min (p + 5) n := by omega
        obtain ⟨m, hm⟩ : ∃ m, m = min nn (n - p5) := ⟨_, rfl⟩
        obtain ⟨D, hD⟩ : ∃ D, D = (b.drop p5).take m := ⟨_, rfl⟩
        have hDl : m = D.length := by rw [hD, List.length_take, List.length_drop, ← Hn.out]; omega
        have hDe : ((b.drop p).drop 5).take nn = D := by
          rw [List.drop_drop, hD]
          rcases Nat.le_total (p + 5) n with h | h
          · rw [show p5 = p + 5 by omega]
            have h2 : m = min nn ((b.drop (p + 5)).length) := by rw [List.length_drop, ← Hn.out]; omega
            rw [h2, List.take_eq_take_min]
          · rw [List.drop_of_length_le (by rw [← Hn.out]; exact h), List.drop_of_length_le (by rw [← Hn.out]; omega)]
            simp
        have HS := Lib.hid (show stepL (b.drop p) = ⟨(o : Int), (g1 : Int), (g2 : Int), D⟩ ∧ used (b.drop p) = 5 + nn by
          rw [HST.out.1, HST.out.2, hcar, hsaid, hDe]
          exact ⟨rfl, rfl⟩)
        have hp5n : p5 ≤ n := by omega
        have hpm : p5 + m ≤ n := by omega
        have HPM := Lib.hid (show p5 + m = min (p + (5 + nn)) n by omega)
        have HDL := Lib.hid hDl
        have HDD := Lib.hid hD
        have HW3 := fun (w3 : World) (pl3 : Pl W1 Ba Bx n₀ A n c b w3 p3) => show Ba < w3.heap.size ∧ Bx < w3.heap.size ∧ n₀ ≤ w3.heap.size from ⟨pl3.at_.lt, pl3.raw.lt, Nat.le_trans hs1 pl3.gr.size⟩
        have t4 : True := trivial
        have t5 : True := trivial
        obtain ⟨q5, hq5⟩ : ∃ q5, q5 = n - p5 := ⟨_, rfl⟩
        have hsub : (n : Int) - (p5 : Int) = (q5 : Int) := by omega
        obtain ⟨pe, hpe⟩ : ∃ pe, pe = p5 + m := ⟨_, rfl⟩
        have hsum : (p5 : Int) + (m : Int) = (pe : Int) := by omega
        have hpem : pe - p5 = m := by omega
        have hpen : pe ≤ n := by omega
        have hpe5 : p5 ≤ pe := by omega
        have hpep : p < pe := by omega
        have HPE := Lib.hid (show pe = min (p + (5 + nn)) n by rw [hpe]; exact HPM.out)
        obtain ⟨S, hS⟩ : ∃ S, S = (if c = p5 then A else Option.map (fun x => x.add p5) A) := ⟨_, rfl⟩
        have HRD := Lib.hid (fun (w : World) (h : Rd w n₀ A (bv b)) => show Rd w n₀ S (bv D) by
          have h1 := (h.cut p5 c (by rw [bv_length, ← Hn.out]; exact hc)).take m
          rw [show (if c = p5 then A else A.map (·.add p5)) = S from hS.symm] at h1
          rw [HDD.out]
          simpa [bv, List.map_take, List.map_drop] using h1)
        have hS2 := hS.symm
        have hcases : m = nn ∧ nn ≤ q5 ∨ m = q5 ∧ q5 < nn := by omega
        have hc5 : p5 ≤ c := by omega
        have hce : pe ≤ c := by omega
        clear hp4 hp5 hg3 hg4 hnn hsaid hp5' hDe hD hDl gbe hp35 hq5 hpe hS hm HPM hpm
        rcases hcases with ⟨rfl, hle⟩ | ⟨rfl, hle⟩
        all_goals
          gi_wp2_with (first
            | (refine ⟨trivial, ?_⟩; gi_at_call 25; have _t := t1; (refine (callsIn_wide.2 (N1.out _ hpl.at_ hpl.raw hpl.rd)).mono ?_); rintro e w1 ⟨rfl, gr1, at1⟩; clear t1 _t; have pl1 := hpl.step gr1 at1 hneB hn₀' hs1)
            | (refine ⟨trivial, ?_⟩; gi_at_call 25; have _t := t2; (refine (callsIn_wide.2 (N2.out _ pl1.at_ pl1.raw pl1.rd)).mono ?_); rintro e w2 ⟨rfl, gr2, at2⟩; clear t2 _t; have pl2 := pl1.step gr2 at2 hneB hn₀' hs1)
            | (refine ⟨trivial, ?_⟩; gi_at_call 25; have _t := t3; (refine (callsIn_wide.2 (N3.out _ pl2.at_ pl2.raw pl2.rd)).mono ?_); rintro e w3 ⟨rfl, gr3, at3⟩; clear t3 _t; have pl3 := pl2.step gr3 at3 hneB hn₀' hs1; have bs4 : Below w3.heap.size w3 (w3.alloc (.cells #[.int .i64 (o : Int), .int .i64 (g1 : Int), .int .i64 (g2 : Int), .slice none 0 0] 26)) := (Below.refl _ _).alloc (Nat.le_refl _) _; have pl4 := pl3.same bs4 hs1)
            | (refine ⟨trivial, ?_⟩; gi_at_call 19; (refine (callsIn_wide.2 (carries_any (o : Int) _)).mono ?_); rintro e w4 ⟨rfl, rfl⟩)
            | (refine ⟨trivial, ?_⟩; gi_at_call 25; have _t := t4; (refine (callsIn_wide.2 (N4.out _ pl4.at_ pl4.raw pl4.rd)).mono ?_); rintro e w5 ⟨rfl, gr5, at5⟩; clear t4 _t; have pl5 := pl4.step gr5 at5 hneB hn₀' hs1)
            | (refine ⟨trivial, ?_⟩; gi_at_call 25; have _t := t5; (refine (callsIn_wide.2 (N5.out _ pl5.at_ pl5.raw pl5.rd)).mono ?_); rintro e w6 ⟨rfl, gr6, at6⟩; clear t5 _t; have pl6 := pl5.step gr6 at6 hneB hn₀' hs1; have ca6 := pl6.at_.cell; have fa6 := pl6.at_.frozen; have cx6 := pl6.raw.cell)
            | (refine ⟨trivial, ?_⟩; gi_at_call 26; (refine (callsIn_wide.2 (clone_at D m HDL.out S (c - p5) n₀ w6 (HRD.out w6 pl6.rd) (Nat.le_trans hs1 pl6.gr.size) (by omega))).mono ?_); rintro e w7 ⟨A7, k7, rfl, own7, b7⟩; have pl7 := pl6.same b7 hs1; obtain ⟨hw3a, hw3x, hw3n⟩ := HW3 w3 pl3; have cells7 : w7.heap[w3.heap.size]? = some (.cells #[.int .i64 (o : Int), .int .i64 (g1 : Int), .int .i64 (g2 : Int), .slice none 0 0] 26 (0, 0)) := step_box (gr5.trans gr6) b7 (by omega); have e0 := cells_at cells7 (j := 0) rfl; have e1 := cells_at cells7 (j := 1) rfl; have e2 := cells_at cells7 (j := 2) rfl; have e3 := cells_at cells7 (j := 3) rfl; have f3 := frozen_at cells7 (j := 3); have ca7 := pl7.at_.cell; have fa7 := pl7.at_.frozen; have hne1 : ¬ Ba = w3.heap.size := (by omega); have hne2 : ¬ w3.heap.size = Ba := (by omega); have pl9 := (pl7.data (Bs := w3.heap.size) pl3.gr.size (by omega) (by omega) (by omega) hs1 (.slice A7 m k7)).move hneB hn₀' hs1 pe; have ownf := (own7.setCell_low (p := ⟨w3.heap.size, 3, none⟩) (by have := gr5.size; have := gr6.size; simp at *; omega) (.slice A7 m k7)).setCell_low (p := ⟨Ba, 0, none⟩) (by have := gr5.size; have := gr6.size; simp at *; omega) (.int .i64 (pe : Int)); obtain ⟨fn, tmps, assign, body, hy, hRd⟩ := hY pre ⟨p, A7, k7, ⟨(o : Int), (g1 : Int), (g2 : Int), D⟩⟩ W1 _ hJ pl9.gr (rec_of hlink.out hpb rfl HS.out.1.symm (by rw [← HDL.out]; exact ownf.base_le (Nat.max_le.2 ⟨pl6.gr.size, pl6.at_.lt⟩))); simp only [El.encs, El.sv, ← HDL.out] at hy)
            | fail)
        all_goals
          refine hRd.mono ?_
          rintro e w8 (⟨rfl, hJ8, hk8⟩ | ⟨rfl, hx8⟩)
          · have pl8 := pl9.after hk8 hs1
            have hsz8 : W1.heap.size ≤ w8.heap.size := Nat.le_trans pl9.gr.size hk8.size
            gi_wp2
            go_roundw
            case rel => exact ⟨pe, _, w8, hpen, link_of hlink.out hpb rfl HS.out.1.symm (by rw [HS.out.2, ← Hn.out]; exact HPE.out), hJ8, Nat.le_trans hs1 hsz8, Nat.le_trans hs2 hsz8, pl8⟩
            case measure => rw [placeOf_eq pl8.at_, placeOf_eq hpl.at_]; omega
          · gi_wp2
            refine bodyPost_ret (results_none rfl _ _ _) rfl ?_
            exact ⟨⟨_, rfl⟩, .inr ⟨_, hx8⟩⟩
    · obtain rfl : p = n := by omega
      gi_wp2
      go_end0
      exact ⟨⟨_, rfl⟩, .inl ⟨pre, W1, by have := hlink.out; rw [Linked, Hn.out, List.drop_of_length_le (Nat.le_refl _), decR_nil] at this; simpa [AllS] using this.symm, hJ, hpl.gr⟩⟩

end Go.Proofs.Ytpafimjdlbnckaa
