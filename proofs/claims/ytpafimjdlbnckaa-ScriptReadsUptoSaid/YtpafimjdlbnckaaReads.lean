/-
  The walk of ScriptReads.
-/
import Derived.Test.YtpafimjdlbnckaaPass
import Derived.Deep.DeepCutAuto
namespace Go.Proofs.Ytpafimjdlbnckaa
open Go.RowKit

theorem own_store {w : World} {base n c g k : Nat} {F : List UInt8} (h : Go.Proofs.Ytpafimjdlbnckaa.Own w base 5 1 (some ⟨g, 0, none⟩) n c (bv F)) (b : UInt8) : Go.Proofs.Ytpafimjdlbnckaa.Own (w.setCell ⟨g, k, none⟩ (.int .u8 (b.toNat : Int))) base 5 1 (some ⟨g, 0, none⟩) n c (bv (F.set k b)) := by
  have := World.ownsRow.stored h k (.int .u8 (b.toNat : Int))
  have e : bv (F.set k b) = (bv F).set k (.int .u8 (b.toNat : Int)) := by simp [bv, List.map_set]
  unfold Go.Proofs.Ytpafimjdlbnckaa.Own
  rw [e]
  exact this.1
theorem own_cell {w : World} {base n c g k : Nat} {F : List UInt8} {b : UInt8} (h : Go.Proofs.Ytpafimjdlbnckaa.Own w base 5 1 (some ⟨g, 0, none⟩) n c (bv F)) (hk : F[k]? = some b) : w.cell? ⟨g, k, none⟩ = some (.int .u8 (b.toNat : Int)) := by
  obtain ⟨hl, rfl⟩ := List.getElem?_eq_some_iff.1 hk
  obtain ⟨a, ha, _, hc⟩ := h.rd.byte hl
  obtain rfl := Option.some.inj ha
  rw [Addr.add_lit, Nat.zero_add] at hc
  exact hc
theorem own_free {w : World} {base n c g : Nat} {F : List UInt8} (h : Go.Proofs.Ytpafimjdlbnckaa.Own w base 5 1 (some ⟨g, 0, none⟩) n c (bv F)) (k : Nat) : w.frozen? ⟨g, k, none⟩ = false := World.ownsRow.frozenAt h k
theorem add91 (x : UInt8) : ((x + 91 : UInt8).toNat : Int) = ((x.toNat : Int) + 91) % 256 := by
  rw [UInt8.toNat_add]
  have : (91 : UInt8).toNat = 91 := rfl
  rw [this]
  have := x.toNat_lt
  omega

theorem lent_n (xs : List UInt8) (n : Nat) (hn : n = xs.length) (A : Option Addr) (c B : Nat) (w : World) (hx : Rd w B A (bv xs)) (hB : B ≤ w.heap.size) (hl : n ≤ 1048576) :
    Calls Try.prog 7 #[.slice A n c] w fun e w' => ∃ g cap, e = .returned (.slice (some ⟨g, 0, none⟩) n cap) ∧ n + 2 ≤ cap ∧ Go.Proofs.Ytpafimjdlbnckaa.Own w' w.heap.size 5 1 (some ⟨g, 0, none⟩) (n + 2) cap (bv (xs ++ [201, 202])) ∧ Below w.heap.size w w' := by
  subst hn
  exact lent_any xs A c B w hx hB (by omega)

theorem each_nil (k : Nat) (w : World) : (binOp BinOp.eql 42 (.func (.func 24) #[] #[.pointer (some ⟨k, 0, none⟩)]) .nilFunc).run Try.prog w = .ok (.bool false) w := by kernel_rfl

theorem own_take {w : World} {base n c : Nat} {A : Option Addr} {xs : List UInt8} (h : Go.Proofs.Ytpafimjdlbnckaa.Own w base 5 1 A (n + 2) c (bv (xs ++ [201, 202]))) (hn : n = xs.length) : Rd w w.heap.size A (bv xs) := by
  subst hn
  have := h.rd.take xs.length
  simpa [bv, List.take_append_of_le_length] using this

theorem pass_reset {w5 W : World} {N n c z : Nat} {A : Option Addr} (h : PassOut w5 N A n c W) (v : Nat) (hz : z = w5.heap.size) : PassOut w5 v A n c (W.setCell ⟨z, 0, none⟩ (.int .i64 v)) := by
  subst hz
  refine ⟨h.1.setCell (p := ⟨w5.heap.size, 0, none⟩) (Nat.le_refl _) _, Boxed.other (p := ⟨w5.heap.size, 0, none⟩) _ h.2.1 (by simp), Boxed.set _ h.2.2.1, Boxed.other (p := ⟨w5.heap.size, 0, none⟩) _ h.2.2.2 (by simp)⟩
theorem kept_n (xs : List UInt8) (n : Nat) (hn : n = xs.length) (g cap base : Nat) (A : Option Addr) (c B : Nat) (w : World) (hown : Go.Proofs.Ytpafimjdlbnckaa.Own w base 5 1 (some ⟨g, 0, none⟩) (n + 2) cap (bv (xs ++ [201, 202])))
    (hy : Rd w B A (bv xs)) (hl : n ≤ 1048576) :
    Calls Try.prog 11 #[.slice (some ⟨g, 0, none⟩) n cap, .slice A n c] w fun e w' => e = .returned (.bool true) ∧ ∃ k, w' = w.drewN k := by
  subst hn
  have := kept_any xs xs A g cap c base B w hown hy (by omega)
  simpa using this
theorem gr_set (w : World) (p : Addr) (u : Value) : w.grownBy (w.setCell p u) (some p.block) :=
  ⟨rfl, rfl, rfl, by simp [World.setCell], fun k _ hne => Below.heap_setCell _ _ _ _ (fun e => hne (by rw [e]))⟩
theorem pass_start (w5 : World) (A : Option Addr) (n c : Nat) : PassOut w5 0 A n c (((w5.alloc (.cells #[.int .i64 0] 3)).alloc (.cells #[.bool true] 4)).alloc (.cells #[.slice A n c] 24)) := by
  have h1 := Boxed.new w5 3 (.int .i64 0)
  have h2 := Boxed.new (w5.alloc (.cells #[.int .i64 0] 3)) 4 (.bool true)
  have h3 := Boxed.new ((w5.alloc (.cells #[.int .i64 0] 3)).alloc (.cells #[.bool true] 4)) 24 (.slice A n c)
  simp only [World.size_alloc] at h2 h3
  exact ⟨(((Below.refl _ w5).alloc (Nat.le_refl _) _).alloc (by simp) _).alloc (by simp; omega) _, Boxed.alloc h2 _, Boxed.alloc (Boxed.alloc h1 _) _, h3⟩

set_option maxRecDepth 100000 in
set_option maxHeartbeats 2000000 in
theorem reads_any (b : List UInt8) (n : Nat) (hn : n = b.length) (A : Option Addr) (c : Nat) (hl : n ≤ 1048576) (mo op : Int) (w : World) (hr : Rd w w.heap.size A (bv b)) :
    Calls Try.prog 4 #[.slice A n c, .int .i64 mo, .int .i64 op] w fun e w' => e = .returned (.bool true) ∧ Below w.heap.size w w' := by
  obtain ⟨T, hT⟩ : ∃ T, T = (decR 0 b).length := ⟨_, rfl⟩
  have hTl : T ≤ 1048576 := by rw [hT]; exact Nat.le_trans (decR_len _ 0 b (Nat.le_refl _)) (by omega)
  have HLt := Lib.hid (fun (w1 : World) (hb : Below w.heap.size w w1) => lent_n b n hn A c w.heap.size w1 (hr.below hb) hb.size hl)
  have HRD := Lib.hid (fun (w1 : World) (hb : Below w.heap.size w w1) => show Calls Try.prog 14 #[.slice A n c] w1 fun e w' => ∃ R cr, e = .returned (.slice R T cr) ∧ WantAt w' w'.heap.size R b ∧ Below w1.heap.size w1 w' by
    refine (rdec_any b n hn A c (by omega) w1 ((hr.below hb).more hb.size)).mono ?_
    rintro e w' ⟨O, c', els, rfl, h1, h2, h3, h4⟩
    have : els.length = T := by rw [hT, ← h2, List.length_map]
    exact ⟨O, c', by rw [this], want_of h1 h2 h3, h4⟩)
  have HD := Lib.hid (fun (g cap : Nat) (w1 : World) (hc : n ≤ cap) (hr : Rd w1 w1.heap.size (some ⟨g, 0, none⟩) (bv b)) => show Calls Try.prog 15 #[.slice (some ⟨g, 0, none⟩) n cap] w1 fun e w' => ∃ O co els, e = .returned (.slice O T co) ∧ Go.Proofs.Ytpafimjdlbnckaa.Own w' w1.heap.size 26 4 O (List.length (α := El) els) co (flatC els) ∧ AllS b els ∧ Dat w' w1.heap.size els ∧ Below w1.heap.size w1 w' by
    refine (dec_any b n hn (some ⟨g, 0, none⟩) cap (fun h => by cases h) hc (by omega) w1 hr).mono ?_
    rintro e w' ⟨O, c', els, rfl, h1, h2, h3, h4⟩
    have : els.length = T := by rw [hT, ← h2, List.length_map]
    exact ⟨O, c', els, by rw [this], h1, h2, h3, h4⟩)
  have HTN := Lib.hid (And.intro hT hn)
  have hfn := each_nil
  clear hn hT
  have b0 : Below w.heap.size w (w.alloc (.cells #[.int .i64 mo] 3)) := (Below.refl _ w).alloc (Nat.le_refl _) _
  have m0 := Boxed.new w 3 (.int .i64 mo)
  have tk : True := trivial
  go_enter Try.func4, Try.ntmps4
  go_upto_region 9 with (first
    | (go_at_call 14; (refine (HRD.out _ b0).mono ?_); rintro e w1 ⟨R, cr, rfl, hW1, b1⟩; have m1 := Boxed.low m0 b1; have wb1 := Boxed.new w1 23 (.slice R T cr); have m2 := Boxed.alloc m1 (.cells #[.slice R T cr] 23); have hW2 := hW1.below ((Below.refl w1.heap.size w1).alloc (Nat.le_refl _) (.cells #[.slice R T cr] 23)); have b2 := (b0.trans (b1.mono (by simp))).trans (((Below.refl w1.heap.size w1).alloc (Nat.le_refl _) (.cells #[.slice R T cr] 23)).mono (Nat.le_trans (by simp) b1.size)))
    | (go_at_call 7; (refine (HLt.out _ b2).mono ?_); rintro e w3 ⟨g, cap, rfl, hcap, h3, b3⟩)
    | (go_at_call 15; (refine (HD.out g cap w3 (by omega) (own_take h3 HTN.out.2)).mono ?_); rintro e w5 ⟨O, co, els, rfl, hO, hS, hD, b5⟩)
    | (go_at_call 16; go_loud (refine (each_any (some ⟨g, 0, none⟩) n cap _).mono ?_); rintro e w6 ⟨rfl, rfl⟩)
    | fail)
  obtain ⟨W, hW⟩ : ∃ W, W = (((w5.alloc (.cells #[.int .i64 0] 3)).alloc (.cells #[.bool true] 4)).alloc (.cells #[.slice (some ⟨g, 0, none⟩) n cap] 24)) := ⟨_, rfl⟩
  have hP : PassOut w5 0 (some ⟨g, 0, none⟩) n cap W := by rw [hW]; exact pass_start w5 _ n cap
  rw [← hW]
  clear hW
  have d1 := b1.size
  have d3 := b3.size
  have d5 := b5.size
  simp only [World.size_alloc] at d1 d3 d5
  have b35 := b3.trans (b5.mono b3.size)
  have wb5 : Boxed w5 w1.heap.size 23 (.slice R T cr) := (b35.block _ (by simp)).trans wb1
  have m5 : Boxed w5 w.heap.size 3 (.int .i64 mo) := (b35.block _ (by simp; omega)).trans m2
  have hW5 : WantAt w5 w1.heap.size R b := hW2.below (b35.mono (by simp))
  have h5 := h3.below b5 (Nat.le_refl _)
  have bw5 : Below w.heap.size w w5 := b2.trans (b35.mono b2.size)
  obtain ⟨z, hz⟩ : ∃ z, z = w5.heap.size := ⟨_, rfl⟩
  have HP1 := Lib.hid (pass1 b n HTN.out.2 hl (some ⟨g, 0, none⟩) cap (by omega) w5 T cr w1.heap.size w.heap.size HTN.out.1 R mo wb5 m5 (hW5.more (by omega)) (own_take h5 HTN.out.2) W hP z hz)
  rw [← hz]
  obtain ⟨q1, hq1⟩ : ∃ q1, q1 = w1.heap.size := ⟨_, rfl⟩
  obtain ⟨q0, hq0⟩ : ∃ q0, q0 = w.heap.size := ⟨_, rfl⟩
  have HQ := Lib.hid (show q1 = w1.heap.size ∧ q0 = w.heap.size ∧ z = w5.heap.size from ⟨hq1, hq0, hz⟩)
  rw [← hq1, ← hq0] at HP1 ⊢
  have wq5 := wb5
  have mq5 := m5
  rw [← hq1] at wq5
  rw [← hq0] at mq5
  have hqs : q0 ≤ q1 ∧ q1 < z := by omega
  clear hq1 hq0 hz m0 m1 m2 wb1 hW1 hW2 wb5 m5
  go_upto_region 10 with (first
    | (go_at_call 24; go_loud (refine HP1.out.mono ?_); rintro e w7 ⟨⟨v, rfl⟩, N, hP7, hN⟩)
    | fail)
  have hP7' := hP7
  unfold PassOut at hP7'
  rw [← HQ.out.2.2] at hP7'
  obtain ⟨hb7, fi7, n7, r7⟩ := hP7'
  have fc := fi7.cell
  have nc := n7.cell
  have nf := n7.frozen
  have mc := Boxed.cell ((hb7.block q0 (by omega)).trans mq5)
  have ec := Boxed.cell ((hb7.block q1 (by omega)).trans wq5)
  go_cut [49] (fun v wx => v = .bool false ∧ wx = w7)
  case first =>
    rcases hN with ⟨rfl, h | h⟩ | ⟨hmo, h⟩
    · have f1 : ¬ 0 < mo := by omega
      go_wp2
      go_meet
      case rel => exact ⟨rfl, rfl⟩
    · by_cases h0 : 0 < mo
      · have f1 : ¬ mo < (N : Int) := by omega
        go_wp2
        go_meet
        case rel => exact ⟨rfl, rfl⟩
      · go_wp2
        go_meet
        case rel => exact ⟨rfl, rfl⟩
    · rcases Nat.lt_or_ge N T with h2 | h2
      · have f2 : mo < (T : Int) := by omega
        by_cases h0 : 0 < mo
        all_goals
          go_wp2
          go_meet
          case rel => exact ⟨rfl, rfl⟩
      · have f2 : ¬ (mo < (T : Int)) := by omega
        by_cases h0 : 0 < mo
        all_goals
          go_wp2
          go_meet
          case rel => exact ⟨rfl, rfl⟩
  case rest =>
    obtain ⟨rfl, rfl⟩ := hcut
    clear hN
    obtain ⟨wa, rfl⟩ : ∃ wa, wa = wc := ⟨_, rfl⟩
    go_upto_region 13 with fail
    have hP8 : PassOut w5 0 (some ⟨g, 0, none⟩) n cap (wa.setCell ⟨z, 0, none⟩ (.int .i64 0)) := pass_reset hP7 _ HQ.out.2.2
    obtain ⟨w8, hw8⟩ : ∃ w8, w8 = wa.setCell ⟨z, 0, none⟩ (.int .i64 0) := ⟨_, rfl⟩
    rw [← hw8] at hP8 ⊢
    have HP2 := Lib.hid (pass2 b n HTN.out.2 hl (some ⟨g, 0, none⟩) cap (by omega) w5 T cr q1 HTN.out.1 R wq5 (hW5.more (by have := HQ.out; omega)) (own_take h5 HTN.out.2) w8 hP8 z HQ.out.2.2)
    clear hw8 hP7 hb7 fi7 n7 r7 fc nc nf mc ec hP8
    go_upto_region 14 with (first
      | (go_at_call 24; go_loud (refine HP2.out.mono ?_); rintro e w9 ⟨⟨v, rfl⟩, hP9⟩)
      | fail)
    have hP9' := hP9
    unfold PassOut at hP9'
    rw [← HQ.out.2.2] at hP9'
    obtain ⟨hb9, fi9, n9, r9⟩ := hP9'
    have fc := fi9.cell
    have nc := n9.cell
    have ec := Boxed.cell ((hb9.block q1 (by omega)).trans wq5)
    have h9 := h5.below hb9 (by rw [HQ.out.2.2]; exact Nat.le_refl _)
    have hW9 := hW5.below (hb9.mono (by have := HQ.out; omega))
    have hO9 := hO.below hb9 (by rw [HQ.out.2.2]; exact Nat.le_refl _)
    have hD9 : Dat w9 w3.heap.size els := hD.map_ fun x hx => hx.below hb9 (by rw [HQ.out.2.2]; exact Nat.le_refl _)
    have bw9 := bw5.trans (hb9.mono (by have := HQ.out; omega))
    have KE := Lib.hid (kept_n b n HTN.out.2 g cap _ A c w.heap.size w9 h9 (hr.below bw9) hl)
    obtain ⟨cb, hcb⟩ : ∃ cb, cb = carB op := ⟨_, rfl⟩
    have C1 := carries_any op
    have C2 := rcarries_any op
    rw [← hcb] at C1 C2
    clear hP9 fi9 n9 r9 hcb
    have hgz : w1.heap.size + 1 ≤ g ∧ g < w3.heap.size := by
      obtain ⟨g', hg', h1, h2, _⟩ := h3.form_pos (by omega)
      cases hg'
      simpa using And.intro h1 h2
    have g1 : q1 < g := by have := HQ.out; omega
    have g2 : g < w9.heap.size := by have := HQ.out; have := hb9.size; omega
    have g3 : q0 < g := by have := HQ.out; omega
    go_wp2_with (first
      | (go_at_call 11; go_loud (refine KE.out.mono ?_); rintro e w10 ⟨rfl, k, rfl⟩)
      | (go_at_call 19; go_loud (refine (C1 _).mono ?_); rintro e w11 ⟨rfl, rfl⟩)
      | (go_at_call 20; go_loud (refine (C2 _).mono ?_); rintro e w11 ⟨rfl, rfl⟩)
      | fail)
    go_loopw [13] (fun i wr => ∃ (j : Nat) (F : List UInt8), j ≤ n ∧ i = .int .i64 j ∧ Hid (F.length = n + 2) ∧ Go.Proofs.Ytpafimjdlbnckaa.Own wr (w1.heap.size + 1) 5 1 (some ⟨g, 0, none⟩) (n + 2) cap (bv F) ∧ w9.grownBy wr (some g)) (fun i _ => n - (intOf i).toNat)
    case atStart => exact ⟨0, b ++ [201, 202], Nat.zero_le _, rfl, by rw [Hid, List.length_append, ← HTN.out.2]; rfl, by simpa using h9.drewN k, gr_below (below_drewN (Below.refl _ _) k)⟩
    case round =>
      obtain ⟨j, F, hj, rfl, hF, hoF, hgF⟩ := hrel
      by_cases hlt : j < n
      · have hjF : j < F.length := by rw [hF.out]; omega
        have hcell := own_cell hoF (List.getElem?_eq_getElem hjF)
        have hfr := own_free hoF j
        have hst := own_store (k := j) hoF (F[j] + 91)
        rw [add91] at hst
        have HST := Lib.hid hst
        obtain ⟨y, hy⟩ : ∃ y, y = F[j] := ⟨_, rfl⟩
        rw [← hy] at hcell HST
        have hub : y.toNat < 256 := y.toNat_lt
        clear hst
        have HFJ := Lib.hid hy
        clear hy
        go_wp2
        go_roundw
        case rel => exact ⟨j + 1, _, by omega, by go_num, by rw [Hid, List.length_set]; exact hF.out, HST.out, hgF.trans (gr_set _ ⟨g, j, none⟩ _)⟩
        case measure =>
          show n - (intOf (.int .i64 ((j : Int) + 1))).toNat < n - (intOf (.int .i64 (j : Int))).toNat
          simp only [intOf]
          omega
      · obtain rfl : j = n := by omega
        obtain ⟨wb, rfl⟩ : ∃ wb, wb = wr := ⟨_, rfl⟩
        have bg : Below g w9 wb := ⟨hgF.os, hgF.tape, hgF.output, hgF.size, fun k hk => hgF.block k (by omega) (fun e => by cases e; omega)⟩
        have hWb := hW9.below (bg.mono (by omega))
        have hOb := gr_own hgF hO9 hgz.2
        have hDb := hD9.map_ fun x hx => gr_own hgF hx hgz.2
        have bwb := bw9.trans (bg.mono (by omega))
        have ewb := (hgF.block q1 (by omega) (fun e => by cases e; omega)).trans ((hb9.block q1 (by omega)).trans wq5)
        have hst := (dec_out_st hOb hS hDb).2
        have hswb : w9.heap.size ≤ wb.heap.size := hgF.size
        clear hOb hDb hO9 hD9 hO hD hW9 hW5 hgF hoF h9 h5 h3 bg HP1 HP2 HD HRD HLt KE fc nc ec hfn
        go_wp2
        go_loopw [14] (fun i wz => ∃ (q : Nat), q ≤ T ∧ i = .int .i64 q ∧ Below wb.heap.size wb wz) (fun i _ => T - (intOf i).toNat)
        case atStart => exact ⟨0, Nat.zero_le _, rfl, Below.refl _ _⟩
        case round =>
          obtain ⟨q, hq, rfl, hbq⟩ := hrel
          by_cases hlt2 : q < T
          · obtain ⟨kk, s, hks⟩ : ∃ kk s, (decR 0 b)[q]? = some (kk, s) := ⟨_, _, List.getElem?_eq_getElem (by rw [← HTN.out.1]; exact hlt2)⟩
            have hqs' : q < (steps b).length := by unfold steps; rw [List.length_map, ← HTN.out.1]; exact hlt2
            have hss : (steps b)[q] = s := by
              have : (steps b)[q]? = some s := by unfold steps; rw [List.getElem?_map, hks]; rfl
              exact Option.some.inj ((List.getElem?_eq_getElem hqs').symm.trans this)
            have hdl := dat_le (List.mem_of_getElem? hks)
            obtain ⟨G, D, c', rfl, hG, e0, e1, e2, e3, e4, hrd⟩ := (hWb.below (hbq.mono (by have := HQ.out; omega))) q kk s hks
            obtain ⟨H, o', D', d', rfl, hH, k0, k1, k2, k3, kr⟩ := hst.below hbq q hqs'
            rw [hss] at k0 k1 k2 k3 kr
            have ecz := Boxed.cell ((hbq.block q1 (by omega)).trans ewb)
            have hs0 : (0 : Int) ≤ (q : Int) := Int.natCast_nonneg _
            have hs1 : (q : Int) < (T : Int) := by omega
            have hsd : s.data.length ≤ 16777216 := by have : s.data.length ≤ b.length + 5 := hdl; have := HTN.out.2; omega
            have hB1 : w1.heap.size ≤ wr.heap.size := by have := HQ.out; have := hbq.size; omega
            have hB2 : wb.heap.size ≤ wr.heap.size := hbq.size
            clear hks hss hqs' hdl
            go_wp2_with fail
            go_still_tail 8, (by kernel_rfl)
            change wpList _ _ _ _ _ wr.drew
            go_wp2_with (first | (go_at_call 10; go_loud (refine (step_at s.op s.a s.b kk s.data s.data.length rfl D' D d' c' _ _ wr.drew kr hrd hB2 hB1 hsd).mono ?_); rintro e wz1 ⟨rfl, bz⟩) | fail)
            go_roundw
            case rel => exact ⟨q + 1, by omega, by go_num, hbq.trans (((Below.refl wr.heap.size wr).drew.trans bz).mono hbq.size)⟩
            case measure =>
              show T - (intOf (.int .i64 ((q : Int) + 1))).toNat < T - (intOf (.int .i64 (q : Int))).toNat
              simp only [intOf]
              omega
          · obtain rfl : q = T := by omega
            go_wp2
            go_ret
            exact ⟨rfl, bwb.trans (hbq.mono bwb.size)⟩

end Go.Proofs.Ytpafimjdlbnckaa
