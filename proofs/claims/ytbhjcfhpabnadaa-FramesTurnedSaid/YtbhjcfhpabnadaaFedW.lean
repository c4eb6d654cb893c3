/-
  The walk of turnpikelaw19's fed.
-/
import Derived.Test.YtbhjcfhpabnadaaFeedW
import Derived.Test.YtbhjcfhpabnadaaRdW
import Derived.Test.YtbhjcfhpabnadaaPlW
namespace Go.Proofs.Ytbhjcfhpabnadaa
open Go.RowKit

attribute [local go_sem] drewN_setCell drewN_alloc World.drewN_drewN

/-- In the loop: k bytes were fed. -/
def FedAt (w : World) (b : List UInt8) (wr : World) (k q : Nat) (O : Option Addr) (co : Nat) (Ag : Option Addr) : Prop :=
  q = (parse (b.take k)).1.length ∧ Own wr w.heap.size 60 7 O q co (mv (parse (b.take k)).1) ∧ Rdr wr 115 w.heap.size w.heap.size Ag (rsOf (b.take k)) ∧ Below w.heap.size w wr

/-- What fed leaves. -/
def FedOut (w : World) (b : List UInt8) (e : Ending) (w' : World) : Prop :=
  ∃ q O co Ag, e = .returned (.tuple #[.slice O q co, .pointer (some ⟨w.heap.size, 0, none⟩)]) ∧ FedAt w b w' b.length q O co Ag

section
variable {w wr w2 w3 w4 : World} {b : List UInt8} {k q co M co4 : Nat} {O Ag A3 O4 : Option Addr} {L : List Msg}
theorem fed_mid (H : FedAt w b wr k q O co Ag) (hb : Below wr.heap.size wr w2) : Rdr w2 115 w.heap.size w.heap.size Ag (rsOf (b.take k)) ∧ w.heap.size ≤ w2.heap.size := by
  obtain ⟨h1, h2, h3, h4⟩ := H
  exact ⟨h3.below hb, Nat.le_trans h4.size hb.size⟩
theorem fed_own3 (H : FedAt w b wr k q O co Ag) (hb : Below wr.heap.size wr w2) (ht : Tur (fun j => j = w.heap.size ∨ blk Ag = some j) w2 w3) : Own w3 w.heap.size 60 7 O q co (mv (parse (b.take k)).1) := by
  obtain ⟨h1, h2, h3, h4⟩ := H
  have h2' := h2.below hb (Nat.le_refl _)
  have h3' := h3.below hb
  refine h2'.tur ht fun j hj hS => ?_
  rcases hS with hS | hS
  · exact h3'.ne_row h2' (by decide) (hj.trans (congrArg some hS))
  · obtain ⟨⟨c, _, ho⟩, _⟩ := h3'
    rcases h2'.ne_ ho (by decide) with e | e
    · rw [e] at hj; cases hj
    · exact e (hj.trans hS.symm)
theorem fed_step (H : FedAt w b wr k q O co Ag) (hb : Below wr.heap.size wr w2) (ht : Tur (fun j => j = w.heap.size ∨ blk Ag = some j) w2 w3) (hL : L = feedM (rsOf (b.take k)) ((b.drop k).take M))
    (hr : Rdr w3 115 w2.heap.size w.heap.size A3 (feedR (rsOf (b.take k)) ((b.drop k).take M))) (ho : Own w4 w.heap.size 60 7 O4 (q + L.length) co4 (mv ((parse (b.take k)).1 ++ L))) (hg : w3.grownBy w4 (blk O)) :
    FedAt w b w4 (k + M) (q + L.length) O4 co4 A3 := by
  have o3 := fed_own3 H hb ht
  obtain ⟨h1, h2, h3, h4⟩ := H
  have he : b.take (k + M) = b.take k ++ (b.drop k).take M := List.take_add
  obtain ⟨f1, f2⟩ := feed_app (b.take k) ((b.drop k).take M)
  rw [← he, ← hL] at f2
  rw [← he] at f1
  rw [f1] at hr
  have s2 : w.heap.size ≤ w2.heap.size := Nat.le_trans h4.size hb.size
  refine ⟨by rw [← f2, List.length_append, h1], by rw [← f2]; exact ho, (hr.tur (Tur.of_grown hg) ?_ ?_).base_le s2, ?_⟩
  · exact hr.ne_row o3 (by decide)
  · intro j hj hS
    have a1 := (hr.blk_ge hj).1
    have a2 := (h2.blk_ge hS).2
    have a3 := hb.size
    omega
  · have b2 := h4.trans (hb.mono h4.size)
    have b3 : Below w.heap.size w2 w3 := ht.below s2 fun j hj hS => by
      rcases hS with hS | hS
      · omega
      · have := (h3.blk_ge hS).1
        omega
    exact (b2.trans b3).grown hg (Nat.le_trans s2 ht.size) fun j hj => (h2.blk_ge hj).1
end

set_option maxRecDepth 100000 in
set_option maxHeartbeats 2000000 in
theorem fed_none (b : List UInt8) (n : Nat) (hn : n = b.length) (A : Option Addr) (c B : Nat) (w : World) (hx : Rd w B A (bv b)) (hB : B ≤ w.heap.size) (hc : n ≤ c) (hl : n ≤ 8388608) (Z : Option Addr) (cz : Nat) :
    Calls Try.prog 50 #[.slice A n c, .slice Z 0 cz] w (FedOut w b) := by
  have HN := Lib.hid hn
  have HX := Lib.hid hx
  clear hn hx
  go_enter Try.func50, Try.ntmps50
  go_wp2_with (first
    | (go_at_call 40; refine (newReader_at w).mono ?_; rintro e w1 ⟨rfl, hr1, hb1, hs1⟩)
    | fail)
  have H0 : Hid (FedAt w b w1 0 0 none 0 none) := by
    refine ⟨?_, ?_, ?_, hb1⟩
    · rw [List.take_zero, parse_torn decT_nil]; rfl
    · rw [List.take_zero, parse_torn decT_nil]; exact Own.nil_ _ _ _ _
    · rw [List.take_zero, rsOf_nil]; exact hr1
  clear hr1 hb1 hs1
  go_loopw [7, 8, 9] (fun out a i wr => ∃ (k j q : Nat) (O : Option Addr) (co : Nat) (Ag : Option Addr), k ≤ n ∧ j ≤ k ∧ out = .slice O q co ∧ a = .int .i64 k ∧ i = .int .i64 j ∧ Hid (FedAt w b wr k q O co Ag)) (fun _ a _ _ => n - (intOf a).toNat)
  case atStart => exact ⟨0, 0, 0, none, 0, none, Nat.zero_le _, Nat.le_refl _, rfl, rfl, rfl, H0⟩
  case round =>
    obtain ⟨k, j, q, O, co, Ag, hk, hj, rfl, rfl, rfl, H⟩ := hrel
    by_cases hlt : k < n
    · rcases Nat.eq_zero_or_pos k with rfl | hk0
      · have hn1 : 0 < n := hlt
        obtain ⟨L, hL⟩ : ∃ L, L = feedM (rsOf (b.take 0)) ((b.drop 0).take n) := ⟨_, rfl⟩
        have hpl : n = ((b.drop 0).take n).length := by rw [List.length_take, List.length_drop]; have := HN.out; omega
        have hLl : 8 * L.length ≤ 131080 + n := by
          have h1 := feedM_len (rsOf (b.take 0)) ((b.drop 0).take n)
          have h2 := (rsOf_ok (b.take 0)).1
          rw [← hL, ← hpl] at h1
          omega
        have hql : 8 * q ≤ n := by
          have h1 := (parse_len (b.take 0)).2.1
          rw [← H.out.1, List.length_take] at h1
          omega
        have hw2 := (rsOf_ok (b.take 0)).1
        have HPL := Lib.hid hpl
        have HF := Lib.hid (fun (W : World) (Ar : Option Addr) (hr : Rdr W 115 w.heap.size w.heap.size Ar (rsOf (b.take 0))) (hs : w.heap.size ≤ W.heap.size) (S : Option Addr) (cs : Nat) (hp : Rd W W.heap.size S (bv ((b.drop 0).take n))) => feed_any (rsOf (b.take 0)) w.heap.size w.heap.size Ar W hr hs ((b.drop 0).take n) n HPL.out S cs W.heap.size hp (by omega))
        rw [← hL] at HF
        have HL := Lib.hid hL
        have hRd : Rd wr B A (bv ((b.drop 0).take n)) := by rw [List.drop_zero, List.take_of_length_le (by have := HN.out; omega)]; exact (HX.out.below (H.out.2.2.2.mono hB))
        have HRD := Lib.hid hRd
        clear hL hpl hRd
        go_wp2_with (first
          | (go_at_call 36; go_loud (refine (lent36_n ((b.drop 0).take n) n HPL.out _ c B wr HRD.out (by omega)).mono ?_); rintro e w2 ⟨g2, cap2, rfl, hc2, hcp2, hb2⟩; obtain ⟨hr2, hs2⟩ := fed_mid H.out hb2; have hc2r := hc2.rd)
          | (go_at_call 43; go_loud (refine (HF.out w2 Ag hr2 hs2 _ cap2 hc2r).mono ?_); rintro e w3 ⟨O3, co3, A3, rfl, ho3, hr3, ht3⟩; have o3 := fed_own3 H.out hb2 ht3; have hs3 := Nat.le_trans hs2 ht3.size)
          | (at_builtin; go_loud (refine wpList_app rfl (.tmp 56) (.tmp 57) 75 rfl w.heap.size 60 7 72 Try.el75 O q co (mv (parse (b.take 0)).1) rfl o3 w3.heap.size O3 L.length co3 (mv L) rfl ho3.rd (mv_len L) (mv_one L) (q + L.length) (mv ((parse (b.take 0)).1 ++ L)) rfl (mv_app _ _).symm (by omega) (by unfold maxLen; omega) hs3 ?_); intro O4 co4 w4 h4 hg4 hat4; have HS := Lib.hid (fed_step H.out hb2 ht3 HL.out hr3 h4 hg4); clear h4 hg4 hat4 ho3 hr3 ht3 o3)
          | fail)
        go_roundw
        case rel => exact ⟨0 + n, j + 1, q + L.length, O4, co4, A3, by omega, by omega, rfl, by (simp), by go_num, HS.out⟩
        case measure => simp [intOf]; omega
      · obtain ⟨m, hm⟩ : ∃ m, m = n - k := ⟨_, rfl⟩
        have hm1 : (n : Int) - (k : Int) = (m : Int) := by omega
        have hmp : 0 < m := by omega
        have hmn : m < n := by omega
        have hmk : k + m ≤ n := by omega
        clear hm
        obtain ⟨L, hL⟩ : ∃ L, L = feedM (rsOf (b.take k)) ((b.drop k).take m) := ⟨_, rfl⟩
        have hpl : m = ((b.drop k).take m).length := by rw [List.length_take, List.length_drop]; have := HN.out; omega
        have hLl : 8 * L.length ≤ 131080 + m := by
          have h1 := feedM_len (rsOf (b.take k)) ((b.drop k).take m)
          have h2 := (rsOf_ok (b.take k)).1
          rw [← hL, ← hpl] at h1
          omega
        have hql : 8 * q ≤ n := by
          have h1 := (parse_len (b.take k)).2.1
          rw [← H.out.1, List.length_take] at h1
          omega
        have hw2 := (rsOf_ok (b.take k)).1
        have HPL := Lib.hid hpl
        have HF := Lib.hid (fun (W : World) (Ar : Option Addr) (hr : Rdr W 115 w.heap.size w.heap.size Ar (rsOf (b.take k))) (hs : w.heap.size ≤ W.heap.size) (S : Option Addr) (cs : Nat) (hp : Rd W W.heap.size S (bv ((b.drop k).take m))) => feed_any (rsOf (b.take k)) w.heap.size w.heap.size Ar W hr hs ((b.drop k).take m) m HPL.out S cs W.heap.size hp (by omega))
        rw [← hL] at HF
        have HL := Lib.hid hL
        have hRd : Rd wr B (Option.map (fun x => x.add k) A) (bv ((b.drop k).take m)) := by
          have h1 := ((HX.out.below (H.out.2.2.2.mono hB)).cut k c (by rw [bv_length, ← HN.out]; exact hc)).take m
          rw [if_neg (by omega)] at h1
          simpa [bv, List.map_take, List.map_drop] using h1
        have HRD := Lib.hid hRd
        clear hL hpl hRd
        go_wp2_with (first
          | (go_at_call 36; go_loud (refine (lent36_n ((b.drop k).take m) m HPL.out _ (c - k) B wr HRD.out (by omega)).mono ?_); rintro e w2 ⟨g2, cap2, rfl, hc2, hcp2, hb2⟩; obtain ⟨hr2, hs2⟩ := fed_mid H.out hb2; have hc2r := hc2.rd)
          | (go_at_call 43; go_loud (refine (HF.out w2 Ag hr2 hs2 _ cap2 hc2r).mono ?_); rintro e w3 ⟨O3, co3, A3, rfl, ho3, hr3, ht3⟩; have o3 := fed_own3 H.out hb2 ht3; have hs3 := Nat.le_trans hs2 ht3.size)
          | (at_builtin; go_loud (refine wpList_app rfl (.tmp 56) (.tmp 57) 75 rfl w.heap.size 60 7 72 Try.el75 O q co (mv (parse (b.take k)).1) rfl o3 w3.heap.size O3 L.length co3 (mv L) rfl ho3.rd (mv_len L) (mv_one L) (q + L.length) (mv ((parse (b.take k)).1 ++ L)) rfl (mv_app _ _).symm (by omega) (by unfold maxLen; omega) hs3 ?_); intro O4 co4 w4 h4 hg4 hat4; have HS := Lib.hid (fed_step H.out hb2 ht3 HL.out hr3 h4 hg4); clear h4 hg4 hat4 ho3 hr3 ht3 o3)
          | fail)
        go_roundw
        case rel => exact ⟨k + m, j + 1, q + L.length, O4, co4, A3, by omega, by omega, rfl, by go_num, by go_num, HS.out⟩
        case measure => simp [intOf]; omega
    · obtain rfl : k = n := by omega
      go_wp2
      go_ret2
      exact ⟨q, O, co, Ag, rfl, by rw [← HN.out]; exact H.out⟩

set_option maxRecDepth 100000 in
set_option maxHeartbeats 2000000 in
theorem fed_some (b : List UInt8) (n : Nat) (hn : n = b.length) (A : Option Addr) (c B : Nat) (w : World) (hx : Rd w B A (bv b)) (hB : B ≤ w.heap.size) (hc : n ≤ c) (hl : n ≤ 8388608) (zs : List Int) (ns : Nat) (hns : ns = zs.length) (hn0 : 0 < ns) (Z : Option Addr) (cz Bz : Nat) (hz : Rd w Bz Z (zs.map (Value.int .i64))) (hBz : Bz ≤ w.heap.size) (hnm : ns ≤ 9223372036854775807) :
    Calls Try.prog 50 #[.slice A n c, .slice Z ns cz] w (FedOut w b) := by
  have HN := Lib.hid hn
  have HX := Lib.hid hx
  have HNS := Lib.hid hns
  obtain ⟨az, rfl, _, hsp⟩ : ∃ az, Z = some az ∧ az.block < Bz ∧ az.spot = none := by
    obtain ⟨a, e, hb, hc⟩ := hz 0 (.int .i64 zs[0]) (by rw [List.getElem?_map, List.getElem?_eq_getElem (by omega)]; rfl)
    exact ⟨a, e, hb, World.cell?_spot (a := a.add 0) hc |> (by simpa [Addr.add] using ·)⟩
  obtain ⟨zb, zo, zsp⟩ := az
  obtain rfl : zsp = none := hsp
  have HZ := Lib.hid (fun (W : World) (hb : Below w.heap.size w W) (j : Nat) (hj : j < ns) => show ∃ z, W.cell? ⟨zb, zo + j, none⟩ = some (.int .i64 z) from by
    obtain ⟨a, e, _, hc⟩ := (hz.below (hb.mono hBz)) j (.int .i64 (zs[j]'(by omega))) (by rw [List.getElem?_map, List.getElem?_eq_getElem (by omega)]; rfl)
    obtain rfl := Option.some.inj e
    rw [Addr.add_lit] at hc
    exact ⟨_, hc⟩)
  clear hn hx hz hns
  go_enter Try.func50, Try.ntmps50
  go_wp2_with (first
    | (go_at_call 40; refine (newReader_at w).mono ?_; rintro e w1 ⟨rfl, hr1, hb1, hs1⟩)
    | fail)
  have H0 : Hid (FedAt w b w1 0 0 none 0 none) := by
    refine ⟨?_, ?_, ?_, hb1⟩
    · rw [List.take_zero, parse_torn decT_nil]; rfl
    · rw [List.take_zero, parse_torn decT_nil]; exact Own.nil_ _ _ _ _
    · rw [List.take_zero, rsOf_nil]; exact hr1
  clear hr1 hb1 hs1
  go_loopw [7, 8, 9] (fun out a i wr => ∃ (k j q : Nat) (O : Option Addr) (co : Nat) (Ag : Option Addr), k ≤ n ∧ j ≤ k ∧ out = .slice O q co ∧ a = .int .i64 k ∧ i = .int .i64 j ∧ Hid (FedAt w b wr k q O co Ag)) (fun _ a _ _ => n - (intOf a).toNat)
  case atStart => exact ⟨0, 0, 0, none, 0, none, Nat.zero_le _, Nat.le_refl _, rfl, rfl, rfl, H0⟩
  case round =>
    obtain ⟨k, j, q, O, co, Ag, hk, hj, rfl, rfl, rfl, H⟩ := hrel
    by_cases hlt : k < n
    · obtain ⟨m, hm⟩ : ∃ m, m = n - k := ⟨_, rfl⟩
      have hm1 : (n : Int) - (k : Int) = (m : Int) := by omega
      have hmp : 0 < m := by omega
      have hmk : k + m ≤ n := by omega
      have hmk2 : n ≤ k + m := by omega
      obtain ⟨z, hzc⟩ := HZ.out wr H.out.2.2.2 (j % ns) (Nat.mod_lt _ hn0)
      have hns0 : (0 : Int) < (ns : Int) := by omega
      have hjs : (j : Int) % (ns : Int) < (ns : Int) := Int.emod_lt_of_pos _ hns0
      have hjs0 : (0 : Int) ≤ (j : Int) % (ns : Int) := Int.emod_nonneg _ (by omega)
      clear hm
      go_wp2_with (first
        | (go_at_call 47; refine (round47_any z 64 _ (by omega) (by omega)).mono ?_; rintro e wc ⟨⟨r, hr, rfl⟩, rfl⟩; obtain ⟨r1, hr1⟩ : ∃ r1, r1 = 1 + r := ⟨_, rfl⟩; have hr2 : 1 + (r : Int) = (r1 : Int) := (by omega); have hr3 : 1 ≤ r1 ∧ r1 ≤ 64 := (by omega); clear hr1)
        | fail)
      · have hms : m ≤ n := by omega
        obtain ⟨L, hL⟩ : ∃ L, L = feedM (rsOf (b.take k)) ((b.drop k).take m) := ⟨_, rfl⟩
        have hpl : m = ((b.drop k).take m).length := by rw [List.length_take, List.length_drop]; have := HN.out; omega
        have hLl : 8 * L.length ≤ 131080 + m := by
          have h1 := feedM_len (rsOf (b.take k)) ((b.drop k).take m)
          have h2 := (rsOf_ok (b.take k)).1
          rw [← hL, ← hpl] at h1
          omega
        have hql : 8 * q ≤ n := by
          have h1 := (parse_len (b.take k)).2.1
          rw [← H.out.1, List.length_take] at h1
          omega
        have hw2 := (rsOf_ok (b.take k)).1
        have HPL := Lib.hid hpl
        have HF := Lib.hid (fun (W : World) (Ar : Option Addr) (hr : Rdr W 115 w.heap.size w.heap.size Ar (rsOf (b.take k))) (hs : w.heap.size ≤ W.heap.size) (S : Option Addr) (cs : Nat) (hp : Rd W W.heap.size S (bv ((b.drop k).take m))) => feed_any (rsOf (b.take k)) w.heap.size w.heap.size Ar W hr hs ((b.drop k).take m) m HPL.out S cs W.heap.size hp (by omega))
        rw [← hL] at HF
        have HL := Lib.hid hL
        have hRd : Rd wr B (Option.map (fun x => x.add k) A) (bv ((b.drop k).take m)) := by
          have h1 := ((HX.out.below (H.out.2.2.2.mono hB)).cut k c (by rw [bv_length, ← HN.out]; exact hc)).take m
          rw [if_neg (by omega)] at h1
          simpa [bv, List.map_take, List.map_drop] using h1
        have HRD := Lib.hid hRd
        clear hL hpl hRd
        go_wp2_with (first
          | (go_at_call 36; go_loud (refine (lent36_n ((b.drop k).take m) m HPL.out _ (c - k) B wr HRD.out (by omega)).mono ?_); rintro e w2 ⟨g2, cap2, rfl, hc2, hcp2, hb2⟩; obtain ⟨hr2, hs2⟩ := fed_mid H.out hb2; have hc2r := hc2.rd)
          | (go_at_call 43; go_loud (refine (HF.out w2 Ag hr2 hs2 _ cap2 hc2r).mono ?_); rintro e w3 ⟨O3, co3, A3, rfl, ho3, hr3, ht3⟩; have o3 := fed_own3 H.out hb2 ht3; have hs3 := Nat.le_trans hs2 ht3.size)
          | (at_builtin; go_loud (refine wpList_app rfl (.tmp 56) (.tmp 57) 75 rfl w.heap.size 60 7 72 Try.el75 O q co (mv (parse (b.take k)).1) rfl o3 w3.heap.size O3 L.length co3 (mv L) rfl ho3.rd (mv_len L) (mv_one L) (q + L.length) (mv ((parse (b.take k)).1 ++ L)) rfl (mv_app _ _).symm (by omega) (by unfold maxLen; omega) hs3 ?_); intro O4 co4 w4 h4 hg4 hat4; have HS := Lib.hid (fed_step H.out hb2 ht3 HL.out hr3 h4 hg4); clear h4 hg4 hat4 ho3 hr3 ht3 o3)
          | fail)
        go_roundw
        case rel => exact ⟨k + m, j + 1, q + L.length, O4, co4, A3, by omega, by omega, rfl, by go_num, by go_num, HS.out⟩
        case measure => simp [intOf]; omega
      · have hms : k + r1 ≤ n := by omega
        obtain ⟨L, hL⟩ : ∃ L, L = feedM (rsOf (b.take k)) ((b.drop k).take r1) := ⟨_, rfl⟩
        have hpl : r1 = ((b.drop k).take r1).length := by rw [List.length_take, List.length_drop]; have := HN.out; omega
        have hLl : 8 * L.length ≤ 131080 + r1 := by
          have h1 := feedM_len (rsOf (b.take k)) ((b.drop k).take r1)
          have h2 := (rsOf_ok (b.take k)).1
          rw [← hL, ← hpl] at h1
          omega
        have hql : 8 * q ≤ n := by
          have h1 := (parse_len (b.take k)).2.1
          rw [← H.out.1, List.length_take] at h1
          omega
        have hw2 := (rsOf_ok (b.take k)).1
        have HPL := Lib.hid hpl
        have HF := Lib.hid (fun (W : World) (Ar : Option Addr) (hr : Rdr W 115 w.heap.size w.heap.size Ar (rsOf (b.take k))) (hs : w.heap.size ≤ W.heap.size) (S : Option Addr) (cs : Nat) (hp : Rd W W.heap.size S (bv ((b.drop k).take r1))) => feed_any (rsOf (b.take k)) w.heap.size w.heap.size Ar W hr hs ((b.drop k).take r1) r1 HPL.out S cs W.heap.size hp (by omega))
        rw [← hL] at HF
        have HL := Lib.hid hL
        have hRd : Rd wr B (Option.map (fun x => x.add k) A) (bv ((b.drop k).take r1)) := by
          have h1 := ((HX.out.below (H.out.2.2.2.mono hB)).cut k c (by rw [bv_length, ← HN.out]; exact hc)).take r1
          rw [if_neg (by omega)] at h1
          simpa [bv, List.map_take, List.map_drop] using h1
        have HRD := Lib.hid hRd
        clear hL hpl hRd
        go_wp2_with (first
          | (go_at_call 36; go_loud (refine (lent36_n ((b.drop k).take r1) r1 HPL.out _ (c - k) B wr HRD.out (by omega)).mono ?_); rintro e w2 ⟨g2, cap2, rfl, hc2, hcp2, hb2⟩; obtain ⟨hr2, hs2⟩ := fed_mid H.out hb2; have hc2r := hc2.rd)
          | (go_at_call 43; go_loud (refine (HF.out w2 Ag hr2 hs2 _ cap2 hc2r).mono ?_); rintro e w3 ⟨O3, co3, A3, rfl, ho3, hr3, ht3⟩; have o3 := fed_own3 H.out hb2 ht3; have hs3 := Nat.le_trans hs2 ht3.size)
          | (at_builtin; go_loud (refine wpList_app rfl (.tmp 56) (.tmp 57) 75 rfl w.heap.size 60 7 72 Try.el75 O q co (mv (parse (b.take k)).1) rfl o3 w3.heap.size O3 L.length co3 (mv L) rfl ho3.rd (mv_len L) (mv_one L) (q + L.length) (mv ((parse (b.take k)).1 ++ L)) rfl (mv_app _ _).symm (by omega) (by unfold maxLen; omega) hs3 ?_); intro O4 co4 w4 h4 hg4 hat4; have HS := Lib.hid (fed_step H.out hb2 ht3 HL.out hr3 h4 hg4); clear h4 hg4 hat4 ho3 hr3 ht3 o3)
          | fail)
        go_roundw
        case rel => exact ⟨k + r1, j + 1, q + L.length, O4, co4, A3, by omega, by omega, rfl, by go_num, by go_num, HS.out⟩
        case measure => simp [intOf]; omega
    · obtain rfl : k = n := by omega
      go_wp2
      go_ret2
      exact ⟨q, O, co, Ag, rfl, by rw [← HN.out]; exact H.out⟩

end Go.Proofs.Ytbhjcfhpabnadaa
