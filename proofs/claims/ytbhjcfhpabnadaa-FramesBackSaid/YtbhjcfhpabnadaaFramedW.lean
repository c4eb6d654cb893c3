/-
  The walk of turnpikelaw01's framed.
-/
import Derived.Test.YtbhjcfhpabnadaaFramedS
import Derived.Test.YtbhjcfhpabnadaaAwake
namespace Go.Proofs.Ytbhjcfhpabnadaa
open Go.RowKit

/-- The slice values vs are the payloads G, all in memory below B. -/
def PV (w : World) (B : Nat) (vs : List Value) (G : List (List UInt8)) : Prop :=
  vs.length = G.length ∧ ∀ (j : Nat) v, vs[j]? = some v → ∃ p S c, G[j]? = some p ∧ v = .slice S (List.length (α := UInt8) p) c ∧ Rd w B S (bv p)

theorem PV.nil_ (w : World) (B : Nat) : PV w B [] [] := ⟨rfl, fun j v h => by simp at h⟩
theorem PV.snoc {w : World} {B c : Nat} {vs : List Value} {G : List (List UInt8)} {p : List UInt8} {S : Option Addr} (h : PV w B vs G) (hr : Rd w B S (bv p)) : PV w B (vs ++ [.slice S p.length c]) (G ++ [p]) := by
  refine ⟨by simp [h.1], fun j v hj => ?_⟩
  by_cases hlt : j < vs.length
  · rw [List.getElem?_append_left hlt] at hj
    obtain ⟨q, S', c', hq, hv, hr'⟩ := h.2 j v hj
    exact ⟨q, S', c', by rw [List.getElem?_append_left (by rw [← h.1]; exact hlt)]; exact hq, hv, hr'⟩
  · rw [List.getElem?_append_right (by omega)] at hj
    have h0 : j - vs.length = 0 := by
      have := (List.getElem?_eq_some_iff.1 hj).1
      simp at this
      exact this
    rw [h0] at hj
    obtain rfl := Option.some.inj hj
    exact ⟨p, S, c, by rw [List.getElem?_append_right (by rw [← h.1]; omega), ← h.1, h0]; rfl, rfl, hr⟩
theorem PV.ll {w w' : World} {B base n c : Nat} {O : Option Addr} {vs : List Value} {G : List (List UInt8)} (h : PV w B vs G) (ho : Own w' base 22 1 O n c vs) (hb : Below B w w') (hB : B ≤ w.heap.size) : LL w' w'.heap.size O G :=
  ⟨vs, ho.rd, h.1, fun j v hj => by
    obtain ⟨p, S, c, hp, hv, hr⟩ := h.2 j v hj
    exact ⟨p, S, c, hp, hv, (hr.below hb).more (Nat.le_trans hB hb.size)⟩⟩
theorem PV.one {w : World} {B : Nat} {vs : List Value} {G : List (List UInt8)} (h : PV w B vs G) : ∀ u ∈ vs, u.oneCell' = true := by
  intro u hu
  obtain ⟨j, hj⟩ := List.getElem?_of_mem hu
  obtain ⟨p, S, c, _, rfl, _⟩ := h.2 j u hj
  rfl

theorem LL.get2 {w : World} {B : Nat} {A : Option Addr} {l : List (List UInt8)} (h : LL w B A l) {j : Nat} (hj : j < l.length) :
    ∃ a S c, A = some a ∧ (a.add j).block < B ∧ w.cell? (a.add j) = some (.slice S l[j].length c) ∧ Rd w B S (bv l[j]) := by
  obtain ⟨vs, hr, hlen, hv⟩ := h
  have hjv : j < vs.length := by omega
  obtain ⟨a, ha, hb, hc⟩ := hr j vs[j] (List.getElem?_eq_getElem hjv)
  obtain ⟨p, S, c, hp, he, hrd⟩ := hv j vs[j] (List.getElem?_eq_getElem hjv)
  rw [List.getElem?_eq_getElem hj] at hp
  obtain rfl := Option.some.inj hp
  exact ⟨a, S, c, ha, by rw [add_block]; exact hb, by rw [hc, he], hrd⟩

def endsV (G : List (List UInt8)) : List Value := (ends 0 G).map fun x => .int .i64 (x.1 : Int)
theorem endsV_len (G : List (List UInt8)) : (endsV G).length = G.length := by simp [endsV, ends_len]
theorem endsV_snoc (G : List (List UInt8)) (p : List UInt8) {M m : Nat} (hM : M = (catF G).length) (hm : m = 8 + p.length) : endsV (G ++ [p]) = endsV G ++ [.int .i64 ((M : Int) + (m : Int))] := by
  subst hM hm
  simp [endsV, ends_snoc]

/-- What framed leaves. -/
def FrOut (w : World) (l : List (List UInt8)) (e : Ending) (w' : World) : Prop :=
  ∃ A c O co P cp vs, e = .returned (.tuple #[.slice A (catF (goods l)).length c, .slice O (goods l).length co, .slice P (goods l).length cp]) ∧ Own w' w.heap.size 5 1 A (catF (goods l)).length c (bv (catF (goods l))) ∧
    Own w' w.heap.size 22 1 O (goods l).length co vs ∧ PV w w.heap.size vs (goods l) ∧ Own w' w.heap.size 3 1 P (goods l).length cp (endsV (goods l)) ∧ Below w.heap.size w w'

theorem goods_snoc_ok (l : List (List UInt8)) {p : List UInt8} (h : p.length ≤ 131072) : goods (l ++ [p]) = goods l ++ [p] := by
  simp [goods, okP, List.filter_append, h]
theorem goods_snoc_bad (l : List (List UInt8)) {p : List UInt8} (h : ¬ p.length ≤ 131072) : goods (l ++ [p]) = goods l := by
  simp [goods, List.filter_append, okP, Nat.lt_of_not_le h]

theorem frame_ok {w : World} {p : List UInt8} {n m : Nat} (hp : p.length ≤ 131072) (hn : n = p.length) (hm : m = 8 + p.length) {A : Option Addr} {c B : Nat} (hx : Rd w B A (bv p)) (hB : B ≤ w.heap.size) :
    Calls Try.prog 21 #[.slice A n c] w fun e w' => ∃ A c, e = .returned (.tuple #[.slice A m c, .int .i64 0]) ∧ Own w' w.heap.size 5 1 A m c (bv (frame p)) ∧ Below w.heap.size w w' := by
  refine (frame_at p n hn A c B w hx hB (by omega)).mono ?_
  rintro e w' ⟨A', c', rfl, ho, hb⟩
  have h1 : frO p = frame p := if_pos hp
  have h2 : frE p = 0 := if_pos hp
  rw [h1] at ho
  have h3 : (frame p).length = m := by rw [frame_len, hm]
  rw [h3] at ho
  exact ⟨A', c', by rw [h1, h2, h3], ho, hb⟩
theorem frame_bad {w : World} {p : List UInt8} {n : Nat} (hp : ¬ p.length ≤ 131072) (hl : p.length ≤ 1048576) (hn : n = p.length) {A : Option Addr} {c B : Nat} (hx : Rd w B A (bv p)) (hB : B ≤ w.heap.size) :
    Calls Try.prog 21 #[.slice A n c] w fun e w' => ∃ A c, e = .returned (.tuple #[.slice A 0 c, .int .i64 3]) ∧ Below w.heap.size w w' := by
  refine (frame_at p n hn A c B w hx hB (by omega)).mono ?_
  rintro e w' ⟨A', c', rfl, ho, hb⟩
  have h1 : frO p = [] := if_neg hp
  have h2 : frE p = 3 := if_neg hp
  exact ⟨A', c', by rw [h1, h2]; rfl, hb⟩

set_option maxRecDepth 100000 in
set_option maxHeartbeats 2000000 in
theorem framed_any (l : List (List UInt8)) (n : Nat) (hn : n = l.length) (A : Option Addr) (c : Nat) (w : World) (hl : LL w w.heap.size A l) (ht : totalB l ≤ 1048576) :
    Calls Try.prog 32 #[.slice A n c] w (FrOut w l) := by
  have hnb : n ≤ 1048576 := by have := total_len l; omega
  have Hn := Lib.hid hn
  clear hn
  go_enter Try.func32, Try.ntmps32
  go_wp2
  go_loopw [5, 6, 7, 8] (fun b g p i wr => ∃ (t : Nat) (G : List (List UInt8)) (M q : Nat) (Ab : Option Addr) (cb : Nat) (O : Option Addr) (co : Nat) (P : Option Addr) (cp : Nat) (vs : List Value), t ≤ n ∧ i = .int .i64 t ∧ b = .slice Ab M cb ∧ g = .slice O q co ∧ p = .slice P q cp ∧
    Hid (G = goods (l.take t) ∧ M = (catF G).length ∧ q = G.length) ∧ Own wr w.heap.size 5 1 Ab M cb (bv (catF G)) ∧ Own wr w.heap.size 22 1 O q co vs ∧ PV w w.heap.size vs G ∧ Own wr w.heap.size 3 1 P q cp (endsV G) ∧ Below w.heap.size w wr) (fun _ _ _ i _ => n - (intOf i).toNat)
  case atStart => exact ⟨0, [], 0, 0, none, 0, none, 0, none, 0, [], Nat.zero_le _, rfl, rfl, rfl, rfl, ⟨rfl, rfl, rfl⟩, Own.nil_ _ _ _ _, Own.nil_ _ _ _ _, PV.nil_ _ _, Own.nil_ _ _ _ _, Below.refl _ _⟩
  case round =>
    obtain ⟨t, G, M, q, Ab, cb, O, co, P, cp, vs, htn, rfl, rfl, rfl, rfl, hG, hb, hg, hpv, hp, hbel⟩ := hrel
    have hsz := hbel.size
    have hGt : totalB G ≤ 1048576 := by
      rw [hG.out.1]
      exact Nat.le_trans (goods_total _) (Nat.le_trans (total_take l t) ht)
    have hMb : M ≤ 8388608 := by have := catF_bound G; have := hG.out.2.1; omega
    have hqb : q ≤ 1048576 := by have := total_len G; have := hG.out.2.2; omega
    by_cases hlt : t < n
    · have hlt2 : t < l.length := by rw [← Hn.out]; exact hlt
      obtain ⟨a, S', cc', rfl, hab, hcw, hr1'⟩ := hl.get2 hlt2
      obtain ⟨p, hpe⟩ : ∃ p, p = l[t] := ⟨_, rfl⟩
      have hpt := total_get l t hlt2
      rw [← hpe] at hcw hr1' hpt
      obtain ⟨k, hk⟩ : ∃ k, k = p.length := ⟨_, rfl⟩
      rw [← hk] at hcw
      have hc1 := (hbel.cell hab).trans hcw
      have HT := Lib.hid (show l.take (t + 1) = l.take t ++ [p] by rw [List.take_succ_eq_append_getElem hlt2, hpe])
      have Hk := Lib.hid hk
      have HLN := Lib.hid (lentN p k hk S' cc' w.heap.size wr (hr1'.below hbel) (by omega))
      have hkb : p.length ≤ 1048576 := by omega
      clear hpe hk
      by_cases hok : p.length ≤ 131072
      · obtain ⟨m, hm⟩ : ∃ m, m = 8 + p.length := ⟨_, rfl⟩
        have hmb : m ≤ 131080 := by omega
        have HFR := Lib.hid (fun (w1 : World) (A : Option Addr) (c B : Nat) (h : Rd w1 B A (bv p)) (hB : B ≤ w1.heap.size) => frame_ok (c := c) hok Hk.out hm h hB)
        have HM := Lib.hid hm
        have HG := Lib.hid hG.out
        clear hm hG
        have tok1 : True := trivial
        have tok2 : True := trivial
        go_wp2_with (first
          | (go_at_call 17; refine HLN.out.mono ?_; rintro e w1 ⟨g, cap, rfl, hcp, hcap, b1⟩)
          | (go_at_call 21; refine (HFR.out w1 _ cap w1.heap.size hcp.rd (Nat.le_refl _)).mono ?_; rintro e w2 ⟨F, kF, rfl, hF, b2⟩; have d2 : Below wr.heap.size wr w2 := b1.trans (b2.mono b1.size); have hb2 := hb.below d2 (Nat.le_refl _); have hg2 := hg.below d2 (Nat.le_refl _); have hp2 := hp.below d2 (Nat.le_refl _); have e2 : Below w.heap.size w w2 := hbel.trans (d2.mono hsz); have s2 := e2.size)
          | (at_builtin; have _t := tok1; (refine wpList_app rfl (.tmp 28) (.tmp 29) 22 rfl w.heap.size 5 1 1 Try.el22 Ab M cb (bv (catF G)) rfl hb2 w2.heap.size F m kF (bv (frame p)) rfl hF.rd (by rw [bv_length, frame_len, HM.out]; simp) (bv_one _) (M + m) (bv (catF (G ++ [p]))) rfl (by rw [catF_snoc, bv_append]) (by omega) (by unfold maxLen; omega) s2 ?_); intro A3 k3 w3 h3 hg3 at3; clear tok1 _t; have e3 := below_own e2 hg3 hb2 s2; have s3 := e3.size; have hgg3 := hg2.other hb2 (by decide) hg3; have hpp3 := hp2.other hb2 (by decide) hg3; have hc3 := (e3.cell hab).trans hcw)
          | (at_builtin; have _t := tok2; (refine wpList_app_new rfl (.tmp 31) (.tmp 36) 35 rfl w.heap.size 22 1 24 Try.el35 O q co vs rfl hgg3 #[.slice S' k cc'] w3.heap.size 1 1 rfl rfl rfl (by simp [Value.oneCell']) (q + 1) (vs ++ [.slice S' k cc']) rfl rfl (by omega) (by unfold maxLen; omega) s3 ?_); intro A4 k4 w4 h4 hg4 at4; clear tok2 _t; have e4 := below_own e3 hg4 hgg3 s3; have s4 := e4.size; have hb4 := h3.other hgg3 (by decide) hg4; have hpp4 := hpp3.other hgg3 (by decide) hg4)
          | (at_builtin; (refine wpList_app_new rfl (.tmp 38) (.tmp 41) 36 rfl w.heap.size 3 1 8 Try.el36 P q cp (endsV G) rfl hpp4 #[.int .i64 ((M : Int) + (m : Int))] w4.heap.size 1 1 rfl rfl rfl (by simp [Value.oneCell']) (q + 1) (endsV (G ++ [p])) rfl (endsV_snoc G p HG.out.2.1 HM.out).symm (by omega) (by unfold maxLen; omega) s4 ?_); intro A5 k5 w5 h5 hg5 at5)
          | fail)
        have e5 := below_own e4 hg5 hpp4 s4
        have hb5 := hb4.other hpp4 (by decide) hg5
        have hg5' := h4.other hpp4 (by decide) hg5
        have hgo : G ++ [p] = goods (l.take (t + 1)) := by rw [HT.out, goods_snoc_ok _ hok, ← HG.out.1]
        go_roundw
        case rel => exact ⟨t + 1, G ++ [p], M + m, q + 1, A3, k3, A4, k4, A5, k5, vs ++ [.slice S' k cc'], by omega, by go_num, rfl, rfl, rfl, ⟨hgo, by rw [catF_snoc, List.length_append, frame_len, ← HG.out.2.1, ← HM.out], by simp [HG.out.2.2]⟩, hb5, hg5', by rw [Hk.out]; exact hpv.snoc hr1', h5, e5⟩
        case measure => simp [intOf]; omega
      · have HFR := Lib.hid (fun (w1 : World) (A : Option Addr) (c B : Nat) (h : Rd w1 B A (bv p)) (hB : B ≤ w1.heap.size) => frame_bad (c := c) hok hkb Hk.out h hB)
        have HG := Lib.hid hG.out
        clear hG
        go_wp2_with (first
          | (go_at_call 17; refine HLN.out.mono ?_; rintro e w1 ⟨g, cap, rfl, hcp, hcap, b1⟩)
          | (go_at_call 21; refine (HFR.out w1 _ cap w1.heap.size hcp.rd (Nat.le_refl _)).mono ?_; rintro e w2 ⟨F, kF, rfl, b2⟩)
          | fail)
        have d2 : Below wr.heap.size wr w2 := b1.trans (b2.mono b1.size)
        have hgo : G = goods (l.take (t + 1)) := by rw [HT.out, goods_snoc_bad _ hok, ← HG.out.1]
        go_roundw
        case rel => exact ⟨t + 1, G, M, q, Ab, cb, O, co, P, cp, vs, by omega, by go_num, rfl, rfl, rfl, ⟨hgo, HG.out.2⟩, hb.below d2 (Nat.le_refl _), hg.below d2 (Nat.le_refl _), hpv, hp.below d2 (Nat.le_refl _), hbel.trans (d2.mono hsz)⟩
        case measure => simp [intOf]; omega
    · obtain rfl : t = n := by omega
      have hgo : G = goods l := by rw [hG.out.1, List.take_of_length_le (by rw [← Hn.out]; exact Nat.le_refl _)]
      have HGo := Lib.hid hgo
      clear hgo
      go_wp2
      refine bodyPost_ret (v := .tuple #[.slice Ab M cb, .slice O q co, .slice P q cp]) (by simp [results, Try.results32, go_sem]) rfl ?_
      have h1 := hG.out.2.1
      have h2 := hG.out.2.2
      rw [HGo.out] at h1 h2 hb hpv hp
      exact ⟨Ab, cb, O, co, P, cp, vs, by rw [h1, h2], by rw [← h1]; exact hb, by rw [← h2]; exact hg, hpv, by rw [← h2]; exact hp, hbel⟩

end Go.Proofs.Ytbhjcfhpabnadaa
