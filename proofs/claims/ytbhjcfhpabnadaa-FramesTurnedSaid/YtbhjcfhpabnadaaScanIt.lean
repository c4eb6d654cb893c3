/-
  The walks of sum.Each and of the function that it answers.
-/
import Derived.Test.YtbhjcfhpabnadaaRange
import Derived.Test.YtbhjcfhpabnadaaScanS
import Derived.RangeFuncNested
import Derived.RangeFuncBound
import Derived.Shelf.Abstract
import Derived.Shelf.RegionOpen
import Derived.OwnWalkIn
import Derived.TacticsInMore
import Derived.LoopNIn
import Derived.LoopIn
namespace Go.Proofs.Ytbhjcfhpabnadaa
open Go.RowKit Go.Shelf

attribute [local go_sem] Oper.semAt_some

/-- A record that is handed over: the place behind it, where its payload lies, the payload. -/
structure El where
  k : Nat
  A : Option Addr
  c : Nat
  p : List UInt8
def El.g (x : El) : Nat × List UInt8 := (x.k, x.p)
def El.v (x : El) : Value := .slice x.A x.p.length x.c
def El.encs (x : El) : Array Value := #[.int .i64 x.k, x.v]

/-- What stands of a record that is handed over. -/
def RecR (b : List UInt8) (pre : List El) (x : El) (W1 W2 : World) : Prop :=
  Go.Proofs.Ytbhjcfhpabnadaa.Own W2 W1.heap.size 5 1 x.A x.p.length x.c (bv x.p) ∧ ∃ rest, scanR 0 b = pre.map El.g ++ x.g :: rest
def StepT (W1 W2 : World) : Prop := Below W1.heap.size W1 W2
def AllS (b : List UInt8) (xs : List El) : Prop := xs.map El.g = scanR 0 b
def KeptM (n₀ Bx : Nat) (k : Nat) : Prop := k < n₀ ∨ k = Bx

theorem Kp.rd {M : Nat → Prop} {W W' : World} {n : Nat} {A : Option Addr} {xs : List Value} (h : Kp M W W') (hr : Rd W n A xs) (hm : ∀ k, k < n → M k) (hn : n ≤ W.heap.size) : Rd W' n A xs :=
  hr.below (h.below hm hn)
theorem Kp.boxed {M : Nat → Prop} {W W' : World} {B : Nat} {t : TypeId} {v : Value} (h : Kp M W W') (hb : Boxed W B t v) (hm : M B) : Boxed W' B t v :=
  (h.block B hm hb.lt).trans hb
theorem Boxed.low {W W' : World} {B : Nat} {t : TypeId} {v : Value} (h : Boxed W B t v) (hb : Below W.heap.size W W') : Boxed W' B t v :=
  (hb.block B h.lt).trans h

/-- The link between what came and what is still to come. -/
def Linked (b : List UInt8) (k : Nat) (pre : List El) : Prop := scanR 0 b = pre.map El.g ++ scanR k (b.drop k)

theorem rec_of {b p : List UInt8} {k m : Nat} {pre : List El} (h : Linked b k pre) (hn : nextS (b.drop k) = some p) (hm : m = 8 + p.length) {A : Option Addr} {c : Nat} {W1 W2 : World} (ho : Go.Proofs.Ytbhjcfhpabnadaa.Own W2 W1.heap.size 5 1 A p.length c (bv p)) :
    RecR b pre ⟨k + m, A, c, p⟩ W1 W2 := by
  refine ⟨ho, scanR (k + m) ((b.drop k).drop m), ?_⟩
  subst hm
  rw [h, scanR_some hn]
  rfl
theorem link_of {b p : List UInt8} {k m : Nat} {pre : List El} (h : Linked b k pre) (hn : nextS (b.drop k) = some p) (hm : m = 8 + p.length) {A : Option Addr} {c : Nat} :
    Linked b (k + m) (pre ++ [⟨k + m, A, c, p⟩]) := by
  subst hm
  unfold Linked at *
  rw [h, scanR_some hn, List.drop_drop]
  simp [El.g]

set_option maxRecDepth 100000 in
set_option maxHeartbeats 1000000 in
theorem each1_some (b : List UInt8) (n : Nat) (hn : n = b.length) (a : Addr) (c n₀ Bx : Nat) (hc : n ≤ c) (hl : b.length ≤ 16777216) (W : World) (hr : Rd W n₀ (some a) (bv b)) (hn₀ : n₀ ≤ W.heap.size) (hB : Boxed W Bx 22 (.slice (some a) n c)) :
    SeqR Try.prog 58 #[.pointer (some ⟨Bx, 0, none⟩)] El.encs (KeptM n₀ Bx) StepT (RecR b) (AllS b) W := by
  intro l J Jx hY h0
  refine callsIn_of_wp Try.func58 rfl trivial ?_ rfl
  simp only [Try.ntmps58, List.size_toArray, List.length_cons, List.length_nil, Nat.reduceAdd, Nat.reduceSub, Array.replicate_succ, Array.replicate_zero, List.push_toArray, List.append_toArray, List.nil_append, List.cons_append]
  gi_wp2
  gi_loopw [3] (fun i wr => ∃ (k : Nat) (pre : List El), i = .int .i64 k ∧ k ≤ n ∧ Hid (Linked b k pre) ∧ Rd wr n₀ (some a) (bv b) ∧ n₀ ≤ wr.heap.size ∧ Boxed wr Bx 22 (.slice (some a) n c) ∧ J pre wr) (fun i _ => n - (intOf i).toNat)
  case atStart => exact ⟨0, [], rfl, Nat.zero_le _, rfl, hr, hn₀, hB, h0⟩
  case round =>
    obtain ⟨k, pre, rfl, hk, hlink, hrd, hsz, hbx, hJ⟩ := hrel
    obtain ⟨S, hS⟩ : ∃ S, S = (if c = k then some a else some (a.add k)) := ⟨_, rfl⟩
    have hr2 := hrd.cut k c (by rw [bv_length, ← hn]; exact hc)
    rw [show (if c = k then some a else (some a).map (·.add k)) = S from hS.symm, show (bv b).drop k = bv (b.drop k) by simp [bv]] at hr2
    have hS2 := hS.symm
    clear hS
    have hcell := hbx.cell
    have hdl : (b.drop k).length = n - k := by rw [List.length_drop, hn]
    have HN := Lib.hid (pnext_any (b.drop k) (n - k) hdl.symm S (c - k) n₀ wr hr2 hsz (by omega) (by rw [hdl]; omega))
    have HD := Lib.hid hdl
    clear hr2 hdl
    have h1 : (0 : Int) ≤ (k : Int) := Int.natCast_nonneg _
    have h2 : (k : Int) ≤ (n : Int) := by omega
    have h3 : (k : Int) ≤ (c : Int) := by omega
    have h4 : (n : Int) ≤ (c : Int) := by omega
    have h5 : k ≤ c := by omega
    have hnl := Lib.hid hn
    clear hn
    cases hnx : nextS (b.drop k) with
    | none =>
      rw [hnx] at HN
      have HX := Lib.hid hnx
      clear hnx
      gi_wp2_with (first | (refine ⟨trivial, ?_⟩; gi_at_call 18; refine (callsIn_wide.2 HN.out).mono ?_; rintro e w2 ⟨hb2, rfl⟩) | fail)
      refine bodyPost_ret (results_none rfl _ _ _) rfl ?_
      exact ⟨⟨_, rfl⟩, .inl ⟨pre, wr, by have := hlink.out; rw [Linked, scanR_none HX.out] at this; simpa [AllS] using this.symm, hJ, hb2⟩⟩
    | some p =>
      rw [hnx] at HN
      have hpl := nextS_len hnx
      rw [HD.out] at hpl
      rw [if_neg (show ¬ c = k by omega)] at hS2
      subst hS2
      obtain ⟨m, hm⟩ : ∃ m, m = 8 + p.length := ⟨_, rfl⟩
      have HM := Lib.hid (show Calls Try.prog 18 #[.slice (some (a.add k)) (n - k) (c - k)] wr (fun e w' => Below wr.heap.size wr w' ∧ ∃ A c, e = .returned (.tuple #[.slice A p.length c, .int .i64 (m : Int), .int .i64 0]) ∧ Go.Proofs.Ytbhjcfhpabnadaa.Own w' wr.heap.size 5 1 A p.length c (bv p)) by
        rw [hm]
        exact HN.out)
      have h6 : (k : Int) + (m : Int) ≤ (n : Int) := by omega
      have h7 : (n : Int) ≤ 16777216 := by have := hnl.out; omega
      have HX := Lib.hid hnx
      have Hm := Lib.hid hm
      have h8 : 8 ≤ m := by omega
      clear hnx HN hpl hm
      have tok : True := trivial
      gi_wp2_with (first
        | (have _t := tok; clear tok; refine ⟨trivial, ?_⟩; gi_at_call 18; refine (callsIn_wide.2 HM.out).mono ?_; rintro e w2 ⟨hb2, A2, c2, rfl, ho2⟩; obtain ⟨fn, tmps, assign, body, hy, hRd⟩ := hY pre ⟨k + m, A2, c2, p⟩ wr w2 hJ hb2 (rec_of hlink.out HX.out Hm.out ho2); simp only [El.encs, El.v, Int.natCast_add] at hy)
        | fail)
      refine hRd.mono ?_
      rintro e w3 (⟨rfl, hJ3, hk3⟩ | ⟨rfl, hx3⟩)
      · gi_wp2
        go_roundw
        case rel => exact ⟨k + m, pre ++ [⟨k + m, A2, c2, p⟩], by go_num, by omega, by exact link_of hlink.out HX.out Hm.out, hk3.rd (hrd.below (hb2.mono hsz)) (fun k h => .inl h) (Nat.le_trans hsz hb2.size), Nat.le_trans hsz (Nat.le_trans hb2.size hk3.size), hk3.boxed (Boxed.low hbx hb2) (.inr rfl), hJ3⟩
        case measure => simp [intOf]; omega
      · gi_wp2
        refine bodyPost_ret (results_none rfl _ _ _) rfl ?_
        exact ⟨⟨_, rfl⟩, .inr ⟨_, hx3⟩⟩

set_option maxRecDepth 100000 in
set_option maxHeartbeats 1000000 in
theorem each1_none (n₀ Bx : Nat) (W : World) (hn₀ : n₀ ≤ W.heap.size) (hB : Boxed W Bx 22 (.slice none 0 0)) :
    SeqR Try.prog 58 #[.pointer (some ⟨Bx, 0, none⟩)] El.encs (KeptM n₀ Bx) StepT (RecR []) (AllS []) W := by
  intro l J Jx _ h0
  have hc := hB.cell
  have HN := Lib.hid (pnext_any [] 0 rfl none 0 n₀ W (Rd.nil_ _ _ _) hn₀ (by omega) (by simp))
  rw [show nextS [] = none from rfl] at HN
  refine callsIn_of_wp Try.func58 rfl trivial ?_ rfl
  simp only [Try.ntmps58, List.size_toArray, List.length_cons, List.length_nil, Nat.reduceAdd, Nat.reduceSub, Array.replicate_succ, Array.replicate_zero, List.push_toArray, List.append_toArray, List.nil_append, List.cons_append]
  gi_wp2
  gi_loopw [3] (fun i wr => i = .int .i64 0 ∧ wr = W) (fun _ _ => 0)
  case atStart => exact ⟨rfl, rfl⟩
  case round =>
    obtain ⟨rfl, rfl⟩ := hrel
    gi_wp2_with (first | (refine ⟨trivial, ?_⟩; gi_at_call 18; refine (callsIn_wide.2 HN.out).mono ?_; rintro e w2 ⟨hb2, rfl⟩) | fail)
    refine bodyPost_ret (results_none rfl _ _ _) rfl ?_
    exact ⟨⟨_, rfl⟩, .inl ⟨[], wr, rfl, h0, hb2⟩⟩

set_option maxHeartbeats 400000 in
/-- sum.Each: the bytes are boxed; the function value bears the box. -/
theorem each_any (A : Option Addr) (n c : Nat) (w : World) :
    Calls Try.prog 28 #[.slice A n c] w fun e w' => e = .returned (.func (.func 58) #[] #[.pointer (some ⟨w.heap.size, 0, none⟩)]) ∧ w' = w.alloc (.cells #[.slice A n c] 22) := by
  go_enter Try.func28, Try.ntmps28
  go_wp2
  go_ret
  exact ⟨rfl, rfl⟩

/-- What an iterator of sum.Each's does, whatever the bytes. -/
theorem each1_any (b : List UInt8) (n : Nat) (hn : n = b.length) (A : Option Addr) (c n₀ Bx : Nat) (hA : A = none → c = 0) (hc : n ≤ c) (hl : b.length ≤ 16777216) (W : World) (hr : Rd W n₀ A (bv b)) (hn₀ : n₀ ≤ W.heap.size) (hB : Boxed W Bx 22 (.slice A n c)) :
    SeqR Try.prog 58 #[.pointer (some ⟨Bx, 0, none⟩)] El.encs (KeptM n₀ Bx) StepT (RecR b) (AllS b) W := by
  cases A with
  | none =>
    obtain rfl := hA rfl
    obtain rfl : n = 0 := by omega
    obtain rfl : b = [] := List.eq_nil_of_length_eq_zero hn.symm
    exact each1_none n₀ Bx W hn₀ hB
  | some a => exact each1_some b n hn a c n₀ Bx hc hl W hr hn₀ hB

end Go.Proofs.Ytbhjcfhpabnadaa
