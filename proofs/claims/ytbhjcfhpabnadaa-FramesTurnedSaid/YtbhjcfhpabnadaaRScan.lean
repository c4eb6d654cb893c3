/-
  The walk of turnpikeref01's Scan.
-/
import Derived.Test.YtbhjcfhpabnadaaScanW
namespace Go.Proofs.Ytbhjcfhpabnadaa
open Go.RowKit

theorem Try.el36 : Elem Try.prog 36 3 1 8 := Elem.of (z := .int .i64 0) Try.underlying36 (by kernel_rfl) rfl (by decide)

def El.kv (x : El) : Value := .int .i64 x.k

/-- What the reference's Scan leaves. -/
def RScanOut (w : World) (b : List UInt8) (e : Ending) (w' : World) : Prop :=
  ∃ O c P cp els, e = .returned (.tuple #[.slice O (List.length (α := El) els) c, .slice P els.length cp]) ∧ Go.Proofs.Ytbhjcfhpabnadaa.Own w' w.heap.size 22 1 O els.length c (els.map El.v) ∧ Go.Proofs.Ytbhjcfhpabnadaa.Own w' w.heap.size 3 1 P els.length cp (els.map El.kv) ∧ AllS b els ∧ Els w' w.heap.size els ∧ Below w.heap.size w w'

theorem Own.step2 {w0 w : World} {base base' : Nat} {A O : Option Addr} {n c m k : Nat} {xs ys : List Value} {e : Nat} (h : Own w base e 1 A n c xs) (hb : Below w.heap.size w w0) (ho : Own w base' e 1 O m k ys) : Own w0 base e 1 A n c xs ∧ Own w0 base' e 1 O m k ys := ⟨h.below hb (Nat.le_refl _), ho.below hb (Nat.le_refl _)⟩

theorem linked_len {b : List UInt8} {k : Nat} {pre : List El} (h : Linked b k pre) : 8 * pre.length ≤ b.length := by
  have h1 := scanR_len _ 0 b (Nat.le_refl _)
  have h2 : (scanR 0 b).length = (pre.map El.g ++ scanR k (b.drop k)).length := by rw [h]
  simp at h2
  omega

set_option maxRecDepth 100000 in
set_option maxHeartbeats 2000000 in
theorem rscan_some (b : List UInt8) (n : Nat) (hn : n = b.length) (a : Addr) (c : Nat) (hc : n ≤ c) (hl : b.length ≤ 1048576) (w : World) (hr : Rd w w.heap.size (some a) (bv b)) :
    Calls Try.prog 26 #[.slice (some a) n c] w (RScanOut w b) := by
  have hnl := Lib.hid hn
  clear hn
  go_enter Try.func26, Try.ntmps26
  go_wp2
  go_loopw [4, 5, 6] (fun out pl i wr => ∃ (k : Nat) (pre : List El) (O : Option Addr) (co : Nat) (P : Option Addr) (cp : Nat), out = .slice O pre.length co ∧ pl = .slice P pre.length cp ∧ i = .int .i64 k ∧ k ≤ n ∧ Hid (Linked b k pre) ∧
    Own wr w.heap.size 22 1 O pre.length co (pre.map El.v) ∧ Own wr w.heap.size 3 1 P pre.length cp (pre.map El.kv) ∧ Els wr w.heap.size pre ∧ Below w.heap.size w wr) (fun _ _ i _ => n - (intOf i).toNat)
  case atStart => exact ⟨0, [], none, 0, none, 0, rfl, rfl, rfl, Nat.zero_le _, rfl, Own.nil_ _ _ _ _, Own.nil_ _ _ _ _, Els.nil_ _ _, Below.refl _ _⟩
  case round =>
    obtain ⟨k, pre, O, co, P, cp, rfl, rfl, rfl, hk, hlink, hO, hP, hels, hbel⟩ := hrel
    have hsz := hbel.size
    have hrd := hr.below hbel
    obtain ⟨S, hS⟩ : ∃ S, S = (if c = k then some a else some (a.add k)) := ⟨_, rfl⟩
    have hr2 := hrd.cut k c (by rw [bv_length, ← hnl.out]; exact hc)
    rw [show (if c = k then some a else (some a).map (·.add k)) = S from hS.symm, show (bv b).drop k = bv (b.drop k) by simp [bv]] at hr2
    have hS2 := hS.symm
    clear hS
    have hdl : (b.drop k).length = n - k := by rw [List.length_drop, hnl.out]
    have HN := Lib.hid (rnext_any (b.drop k) (n - k) hdl.symm S (c - k) w.heap.size wr hr2 hsz (by omega) (by rw [hdl]; have := hnl.out; omega))
    have HD := Lib.hid hdl
    have hll := linked_len hlink.out
    clear hr2 hdl
    have h1 : (0 : Int) ≤ (k : Int) := Int.natCast_nonneg _
    have h2 : (k : Int) ≤ (n : Int) := by omega
    have h3 : (k : Int) ≤ (c : Int) := by omega
    have h4 : (n : Int) ≤ (c : Int) := by omega
    have h5 : k ≤ c := by omega
    cases hnx : nextS (b.drop k) with
    | none =>
      rw [hnx] at HN
      have HX := Lib.hid hnx
      clear hnx
      go_wp2_with (first | (go_at_call 19; refine HN.out.mono ?_; rintro e w2 ⟨hb2, rfl⟩) | fail)
      go_ret2
      have hall : AllS b pre := by have := hlink.out; rw [Linked, scanR_none HX.out] at this; simpa [AllS] using this.symm
      exact ⟨O, co, P, cp, pre, rfl, hO.below hb2 (Nat.le_refl _), hP.below hb2 (Nat.le_refl _), hall, hels.map_ fun x hx => hx.below hb2 (Nat.le_refl _), hbel.trans (hb2.mono hsz)⟩
    | some p =>
      rw [hnx] at HN
      have hpl := nextS_len hnx
      rw [HD.out] at hpl
      rw [if_neg (show ¬ c = k by omega)] at hS2
      subst hS2
      obtain ⟨m, hm⟩ : ∃ m, m = 8 + p.length := ⟨_, rfl⟩
      have HM := Lib.hid (show Calls Try.prog 19 #[.slice (some (a.add k)) (n - k) (c - k)] wr (fun e w' => Below wr.heap.size wr w' ∧ ∃ A c, e = .returned (.tuple #[.slice A p.length c, .int .i64 (m : Int), .int .i64 0]) ∧ Own w' wr.heap.size 5 1 A p.length c (bv p)) by
        rw [hm]
        exact HN.out)
      have h6 : (k : Int) + (m : Int) ≤ (n : Int) := by omega
      have h7 : (n : Int) ≤ 1048576 := by have := hnl.out; omega
      have HX := Lib.hid hnx
      have Hm := Lib.hid hm
      have h8 : 8 ≤ m := by omega
      clear hnx HN hpl hm
      have tok : True := trivial
      go_wp2_with (first
        | (go_at_call 19; refine HM.out.mono ?_; rintro e w2 ⟨hb2, A2, c2, rfl, ho2⟩; have hO2 := hO.below hb2 (Nat.le_refl _); have hP2 := hP.below hb2 (Nat.le_refl _); have hsz2 := Nat.le_trans hsz hb2.size)
        | (at_builtin; have _t := tok; (refine wpList_app_new rfl (.tmp 25) (.tmp 27) 35 rfl w.heap.size 22 1 24 Try.el35 O pre.length co (pre.map El.v) rfl hO2 #[.slice A2 p.length c2] w2.heap.size 1 1 rfl rfl rfl (by simp [Value.oneCell']) (pre.length + 1) ((pre ++ [El.mk (k + m) A2 c2 p]).map El.v) rfl (by simp [El.v]) (by omega) (by unfold maxLen; omega) hsz2 ?_); intro O3 c3 w3 hO3 hg3 hat3; clear tok _t; have hsz3 := Nat.le_trans hsz2 hg3.size)
        | (at_builtin; (refine wpList_app_new rfl (.tmp 29) (.tmp 31) 36 rfl w.heap.size 3 1 8 Try.el36 P pre.length cp (pre.map El.kv) rfl (hP2.other hO2 (by decide) hg3) #[.int .i64 ((k : Int) + (m : Int))] w3.heap.size 1 1 rfl rfl rfl (by simp [Value.oneCell']) (pre.length + 1) ((pre ++ [El.mk (k + m) A2 c2 p]).map El.kv) rfl (by simp [El.kv]) (by omega) (by unfold maxLen; omega) hsz3 ?_); intro P4 c4 w4 hP4 hg4 hat4)
        | fail)
      have hels2 : Els w2 w.heap.size pre := hels.map_ fun x hx => hx.below hb2 (Nat.le_refl _)
      have hP3 := hP2.other hO2 (by decide) hg3
      have hels4 : Els w4 w.heap.size (pre ++ [El.mk (k + m) A2 c2 p]) :=
        (hels2.map_ fun x hx => (hx.other hO2 (by decide) hg3).other hP3 (by decide) hg4).snoc hels ((ho2.other hO2 (by decide) hg3).other hP3 (by decide) hg4) hsz
      have hb4 : Below w.heap.size w w4 := below_own (below_own (hbel.trans (hb2.mono hsz)) hg3 hO2 hsz2) hg4 hP3 hsz3
      have hO4 := hO3.other hP3 (by decide) hg4
      go_roundw
      case rel => exact ⟨k + m, pre ++ [El.mk (k + m) A2 c2 p], O3, c3, P4, c4, by simp, by simp, by go_num, by omega, by exact link_of hlink.out HX.out Hm.out, by simpa using hO4, by simpa using hP4, hels4, hb4⟩
      case measure => simp [intOf]; omega

set_option maxRecDepth 100000 in
set_option maxHeartbeats 2000000 in
theorem rscan_none (w : World) : Calls Try.prog 26 #[.slice none 0 0] w (RScanOut w []) := by
  have HN := Lib.hid (rnext_any [] 0 rfl none 0 w.heap.size w (Rd.nil_ _ _ _) (Nat.le_refl _) (by omega) (by simp))
  rw [show nextS [] = none from rfl] at HN
  go_enter Try.func26, Try.ntmps26
  go_wp2
  go_loopw [4, 5, 6] (fun out pl i wr => out = .slice none 0 0 ∧ pl = .slice none 0 0 ∧ i = .int .i64 0 ∧ wr = w) (fun _ _ _ _ => 0)
  case atStart => exact ⟨rfl, rfl, rfl, rfl⟩
  case round =>
    obtain ⟨rfl, rfl, rfl, rfl⟩ := hrel
    go_wp2_with (first | (go_at_call 19; refine HN.out.mono ?_; rintro e w2 ⟨hb2, rfl⟩) | fail)
    go_ret2
    exact ⟨none, 0, none, 0, [], rfl, Own.nil_ _ _ _ _, Own.nil_ _ _ _ _, rfl, Els.nil_ _ _, hb2⟩

theorem rscan_any (b : List UInt8) (n : Nat) (hn : n = b.length) (A : Option Addr) (c : Nat) (hA : A = none → c = 0) (hc : n ≤ c) (hl : b.length ≤ 1048576) (w : World) (hr : Rd w w.heap.size A (bv b)) :
    Calls Try.prog 26 #[.slice A n c] w (RScanOut w b) := by
  cases A with
  | none =>
    obtain rfl := hA rfl
    obtain rfl : n = 0 := by omega
    obtain rfl : b = [] := List.eq_nil_of_length_eq_zero hn.symm
    exact rscan_none w
  | some a => exact rscan_some b n hn a c hc hl w hr

/-- A slice of slices of bytes that reads as l. -/
def LL (w : World) (B : Nat) (A : Option Addr) (l : List (List UInt8)) : Prop :=
  ∃ vs, Rd w B A vs ∧ vs.length = l.length ∧ ∀ (j : Nat) v, vs[j]? = some v → ∃ p S c, l[j]? = some p ∧ v = .slice S (List.length (α := UInt8) p) c ∧ Rd w B S (bv p)

theorem LL.get {w : World} {B : Nat} {A : Option Addr} {l : List (List UInt8)} (h : LL w B A l) {j : Nat} (hj : j < l.length) :
    ∃ a S c, A = some a ∧ w.cell? (a.add j) = some (.slice S l[j].length c) ∧ Rd w B S (bv l[j]) := by
  obtain ⟨vs, hr, hlen, hv⟩ := h
  have hjv : j < vs.length := by omega
  obtain ⟨a, ha, _, hc⟩ := hr j vs[j] (List.getElem?_eq_getElem hjv)
  obtain ⟨p, S, c, hp, he, hrd⟩ := hv j vs[j] (List.getElem?_eq_getElem hjv)
  rw [List.getElem?_eq_getElem hj] at hp
  obtain rfl := Option.some.inj hp
  exact ⟨a, S, c, ha, by rw [hc, he], hrd⟩
theorem LL.below {w w' : World} {B : Nat} {A : Option Addr} {l : List (List UInt8)} (h : LL w B A l) (hb : Below B w w') : LL w' B A l := by
  obtain ⟨vs, hr, hlen, hv⟩ := h
  refine ⟨vs, hr.below hb, hlen, fun j v hj => ?_⟩
  obtain ⟨p, S, c, hp, he, hrd⟩ := hv j v hj
  exact ⟨p, S, c, hp, he, hrd.below hb⟩
theorem LL.more {w : World} {B B' : Nat} {A : Option Addr} {l : List (List UInt8)} (h : LL w B A l) (hB : B ≤ B') : LL w B' A l := by
  obtain ⟨vs, hr, hlen, hv⟩ := h
  refine ⟨vs, hr.more hB, hlen, fun j v hj => ?_⟩
  obtain ⟨p, S, c, hp, he, hrd⟩ := hv j v hj
  exact ⟨p, S, c, hp, he, hrd.more hB⟩
theorem LL.of_els {w : World} {base n c : Nat} {O : Option Addr} {els : List El} (ho : Own w base 22 1 O n c (els.map El.v)) (he : Els w base els) : LL w w.heap.size O (els.map El.p) := by
  refine ⟨_, ho.rd, by simp, fun j v hj => ?_⟩
  rw [List.getElem?_map] at hj
  cases hx : els[j]? with
  | none => rw [hx] at hj; cases hj
  | some x =>
    rw [hx] at hj
    obtain rfl := Option.some.inj hj
    exact ⟨x.p, x.A, x.c, by rw [List.getElem?_map, hx]; rfl, rfl, (he.1 x (List.mem_of_getElem? hx)).rd⟩
theorem LL.take {w : World} {B : Nat} {A : Option Addr} {l : List (List UInt8)} (h : LL w B A l) (n : Nat) : LL w B A (l.take n) := by
  obtain ⟨vs, hr, hlen, hv⟩ := h
  refine ⟨vs.take n, hr.take n, by simp [hlen], fun j v hj => ?_⟩
  rw [List.getElem?_take] at hj
  split at hj
  · rename_i hlt
    obtain ⟨p, S, c, hp, he, hrd⟩ := hv j v hj
    exact ⟨p, S, c, by rw [List.getElem?_take, if_pos hlt]; exact hp, he, hrd⟩
  · cases hj

set_option maxRecDepth 100000 in
set_option maxHeartbeats 800000 in
theorem lists_eq (l : List (List UInt8)) (n m : Nat) (hn : n = l.length) (hm : m = l.length) (hl : l.length ≤ 16777216) (A A' : Option Addr) (c c' B : Nat) (w : World) (h1 : LL w B A l) (h2 : LL w B A' l) :
    Calls Try.prog 29 #[.slice A n c, .slice A' m c'] w fun e w' => e = .returned (.bool true) ∧ ∃ k, w' = w.drewN k := by
  obtain rfl : n = m := by omega
  have HN := Lib.hid hn
  clear hn hm
  go_enter Try.func29, Try.ntmps29
  go_wp2
  go_loopw [5] (fun i wr => ∃ k q : Nat, k ≤ n ∧ i = .int .i64 k ∧ wr = w.drewN q) (fun i _ => n - (intOf i).toNat)
  case atStart => exact ⟨0, 0, Nat.zero_le _, rfl, rfl⟩
  case round =>
    obtain ⟨k, q, hk, rfl, rfl⟩ := hrel
    by_cases hlt : k < n
    · have hlt2 : k < l.length := by rw [← HN.out]; exact hlt
      obtain ⟨a, S, cc, rfl, hc1, hr1⟩ := h1.get hlt2
      obtain ⟨a', S', cc', rfl, hc2, hr2⟩ := h2.get hlt2
      obtain ⟨p, hp⟩ : ∃ p, p = l[k] := ⟨_, rfl⟩
      rw [← hp] at hc1 hc2 hr1 hr2
      have cv1 := fun m => conv_any (w := w.drewN m) hr1 p.length rfl cc
      have cv2 := fun m => conv_any (w := w.drewN m) hr2 p.length rfl cc'
      clear hp hr1 hr2
      go_wp2
      go_quiet (fail)
      go_wp2
      go_roundw
      case rel => exact ⟨k + 1, q + nq, by omega, by go_num, rfl⟩
      case measure => simp [intOf]; omega
    · obtain rfl : k = n := by omega
      go_wp2
      go_ret
      exact ⟨rfl, q, rfl⟩

end Go.Proofs.Ytbhjcfhpabnadaa
