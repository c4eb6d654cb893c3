/-
  The two passes of ScriptReads over the iterator.
-/
import Derived.Test.YtpafimjdlbnckaaRDec
import Derived.Test.YtpafimjdlbnckaaTotal
import Derived.Test.YtpafimjdlbnckaaCl
import Derived.Test.YtpafimjdlbnckaaEachP17
import Derived.Test.YtpafimjdlbnckaaEachP18
namespace Go.Proofs.Ytpafimjdlbnckaa
open Go.RowKit

/-- The steps that the reference answers, said of memory. -/
def WantAt (w : World) (B : Nat) (R : Option Addr) (b : List UInt8) : Prop :=
  ∀ (q k : Nat) (s : St), (decR 0 b)[q]? = some (k, s) → ∃ g D c, R = some ⟨g, 0, none⟩ ∧ g < B ∧ w.cell? ⟨g, q * 5, none⟩ = some (.int .i64 s.op) ∧ w.cell? ⟨g, q * 5 + 1, none⟩ = some (.int .i64 s.a) ∧ w.cell? ⟨g, q * 5 + 2, none⟩ = some (.int .i64 s.b) ∧ w.cell? ⟨g, q * 5 + 3, none⟩ = some (.slice D s.data.length c) ∧ w.cell? ⟨g, q * 5 + 4, none⟩ = some (.int .i64 k) ∧ Rd w B D (bv s.data)
theorem WantAt.below {w w' : World} {B : Nat} {R : Option Addr} {b : List UInt8} (h : WantAt w B R b) (hb : Below B w w') : WantAt w' B R b := by
  intro q k s hq
  obtain ⟨g, D, c, h1, h2, h3, h4, h5, h6, h7, h8⟩ := h q k s hq
  exact ⟨g, D, c, h1, h2, (hb.cell h2).trans h3, (hb.cell h2).trans h4, (hb.cell h2).trans h5, (hb.cell h2).trans h6, (hb.cell h2).trans h7, h8.below hb⟩
theorem WantAt.more {w : World} {B B' : Nat} {R : Option Addr} {b : List UInt8} (h : WantAt w B R b) (hb : B ≤ B') : WantAt w B' R b := by
  intro q k s hq
  obtain ⟨g, D, c, h1, h2, h3, h4, h5, h6, h7, h8⟩ := h q k s hq
  exact ⟨g, D, c, h1, Nat.lt_of_lt_of_le h2 hb, h3, h4, h5, h6, h7, h8.more hb⟩

theorem want_of {w' : World} {base c : Nat} {b : List UInt8} {R : Option Addr} {els : List El} (ho : Go.Proofs.Ytpafimjdlbnckaa.Own w' base 29 5 R els.length c (flatR els)) (hS : AllS b els) (hd : Dat w' base els) : WantAt w' w'.heap.size R b := by
  intro q k s hq
  rw [← hS, List.getElem?_map] at hq
  obtain ⟨x, hx, hg⟩ := Option.map_eq_some_iff.1 hq
  obtain ⟨hlt, rfl⟩ := List.getElem?_eq_some_iff.1 hx
  have e1 : els[q].k = k := congrArg Prod.fst hg
  have e2 : els[q].s = s := congrArg Prod.snd hg
  obtain ⟨g, rfl, _, hgl, _⟩ := ho.form_pos (by omega)
  have hgr := flatR_at els q hlt
  refine ⟨g, els[q].A, els[q].c, rfl, hgl, ?_, ?_, ?_, ?_, ?_, ?_⟩
  · rw [← e2]; simpa [El.rs] using ho.grp hgr 0 _ rfl
  · rw [← e2]; simpa [El.rs] using ho.grp hgr 1 _ rfl
  · rw [← e2]; simpa [El.rs] using ho.grp hgr 2 _ rfl
  · rw [← e2]; simpa [El.rs] using ho.grp hgr 3 _ rfl
  · rw [← e1]; simpa [El.rs] using ho.grp hgr 4 _ rfl
  · rw [← e2]; exact (hd els[q] (List.getElem_mem hlt)).rd

theorem dat_le {b : List UInt8} {x : Nat × St} (h : x ∈ decR 0 b) : x.2.data.length ≤ b.length + 5 := by
  have hin : x.2 ∈ steps b := by unfold steps; exact List.mem_map_of_mem h
  have h1 := encL_mem hin
  have h2 := steps_bulk _ b (Nat.le_refl _)
  have h3 := encS_ge (all_ok b x.2 hin)
  omega

/-- What a pass leaves. -/
def PassOut (w5 : World) (N : Nat) (A : Option Addr) (n c : Nat) (W : World) : Prop :=
  Below w5.heap.size w5 W ∧ Boxed W (w5.heap.size + 1) 4 (.bool true) ∧ Boxed W w5.heap.size 3 (.int .i64 N) ∧ Boxed W (w5.heap.size + 2) 24 (.slice A n c)
theorem PassOut.gr {w5 W W' : World} {N n c Ba : Nat} {A : Option Addr} (h : PassOut w5 N A n c W) (hg : W.grownBy W' (some Ba)) (hB : w5.heap.size + 3 ≤ Ba) : PassOut w5 N A n c W' :=
  ⟨h.1.grown hg h.1.size fun k e => by cases e; omega, gr_boxed hg h.2.1 (by omega), gr_boxed hg h.2.2.1 (by omega), gr_boxed hg h.2.2.2 (by omega)⟩
def Pre (b : List UInt8) (pre : List El) : Prop := ∃ rest, decR 0 b = pre.map El.g ++ rest
theorem Pre.len {b : List UInt8} {pre : List El} (h : Pre b pre) : pre.length ≤ (decR 0 b).length := by
  obtain ⟨r, h⟩ := h
  rw [h]
  simp
theorem Pre.of {Ba : Nat} {b : List UInt8} {pre : List El} {x : El} {W1 W2 : World} (h : StepR Ba b pre x W1 W2) : Pre b (pre ++ [x]) := by
  obtain ⟨_, r, h⟩ := h
  exact ⟨r, by rw [h]; simp⟩
theorem rec_get {Ba : Nat} {b : List UInt8} {pre : List El} {x : El} {W1 W2 : World} (h : StepR Ba b pre x W1 W2) : (decR 0 b)[pre.length]? = some (x.k, x.s) ∧ pre.length < (decR 0 b).length ∧ x.s.data.length ≤ b.length + 5 := by
  obtain ⟨_, r, h⟩ := h
  have h1 : (decR 0 b)[pre.length]? = some (x.k, x.s) := by
    rw [h, List.getElem?_append_right (by simp)]
    simp [El.g]
  exact ⟨h1, (List.getElem?_eq_some_iff.1 h1).1, dat_le (List.mem_of_getElem? h1)⟩

theorem pass1 (b : List UInt8) (n : Nat) (hn : n = b.length) (hl : n ≤ 1048576) (A : Option Addr) (c : Nat) (hc : n ≤ c) (w5 : World) (T wc wb mb : Nat) (hT : T = (decR 0 b).length) (R : Option Addr) (mo : Int)
    (hw : Boxed w5 wb 23 (.slice R T wc)) (hm : Boxed w5 mb 3 (.int .i64 mo)) (hW : WantAt w5 w5.heap.size R b) (hr : Rd w5 w5.heap.size A (bv b)) (W : World) (hP : PassOut w5 0 A n c W) (z : Nat) (hz : z = w5.heap.size) :
    Calls Try.prog 24 #[.func (.func 17) #[] #[.pointer (some ⟨z + 1, 0, none⟩), .pointer (some ⟨z, 0, none⟩), .pointer (some ⟨wb, 0, none⟩), .pointer (some ⟨mb, 0, none⟩)], .pointer (some ⟨z + 2, 0, none⟩)] W
      fun e W' => (∃ v, e = .returned v) ∧ ∃ N : Nat, PassOut w5 N A n c W' ∧ (N = T ∧ (mo ≤ 0 ∨ (N : Int) < mo) ∨ (N : Int) = mo ∧ N ≤ T) := by
  subst hz
  have hs5 := hP.1.size
  have hlx := hP.2.2.2.lt
  have hTl : T ≤ 1048576 := by rw [hT]; exact Nat.le_trans (decR_len _ 0 b (Nat.le_refl _)) (by omega)
  refine (eachp_17 b n hn (by omega) A c w5.heap.size (w5.heap.size + 2) W.heap.size (w5.heap.size + 1) w5.heap.size wb mb hc W (hr.below hP.1) hs5 hP.2.2.2 rfl
    (fun pre W1 => PassOut w5 pre.length A n c W1 ∧ Pre b pre ∧ (mo ≤ 0 ∨ (pre.length : Int) < mo))
    (fun pre W1 => PassOut w5 pre.length A n c W1 ∧ Pre b pre ∧ (pre.length : Int) = mo) ?_ ⟨hP, ⟨decR 0 b, rfl⟩, by show mo ≤ 0 ∨ ((0 : Nat) : Int) < mo; omega⟩).mono ?_
  · intro pre x W1 W2 hJ ht hR
    obtain ⟨hJ1, hJ2, hJ3⟩ := hJ
    have h2 := hJ1.gr ht (by omega)
    obtain ⟨hget, hlt, hdl⟩ := rec_get hR
    obtain ⟨g, D, c', rfl, hg, e0, e1, e2, e3, e4, hrd⟩ := (hW.below h2.1) _ _ _ hget
    have hwb := (h2.1.block wb hw.lt).trans hw
    have hmb := (h2.1.block mb hm.lt).trans hm
    have lw := hw.lt
    have lm := hm.lt
    refine (cl17_any x.k pre.length T mo x.s.op x.s.a x.s.b x.s.data x.s.data.length rfl x.A D x.c c' g wc (w5.heap.size + 1) w5.heap.size wb mb _ _ W2 h2.2.1 h2.2.2.1 hwb hmb (by omega) (by omega) (by omega) e0 e1 e2 e3 e4 hR.1.rd hrd (Nat.le_refl _) h2.1.size (by omega) (by omega) (by omega) (by omega) (by omega) (Nat.lt_of_lt_of_le hg h2.1.size)).mono ?_
    rintro e W3 ⟨rfl, h4, h5, h6⟩
    have hout : PassOut w5 (pre ++ [x]).length A n c W3 := by
      refine ⟨h2.1.trans (h6.below (fun k hk => by omega) h2.1.size), h4, by rw [List.length_append]; simpa using h5, h6.boxed h2.2.2.2 (by omega)⟩
    by_cases hmo : (pre.length : Int) + 1 = mo
    · refine .inr ⟨by simp [hmo], hout, Pre.of hR, ?_⟩
      rw [List.length_append]
      simpa using hmo
    · refine .inl ⟨by simp [hmo], ⟨hout, Pre.of hR, ?_⟩, h6.mono fun k hk => by unfold KeptM at hk; omega⟩
      rw [List.length_append]
      simp only [List.length_cons, List.length_nil]
      omega
  · rintro e W' ⟨hv, ⟨xs, W1, hS, ⟨h1, h2, h3⟩, ht⟩ | ⟨pre, h1, h2, h3⟩⟩
    · refine ⟨hv, xs.length, h1.gr ht (by omega), .inl ⟨?_, h3⟩⟩
      rw [hT, ← hS, List.length_map]
    · exact ⟨hv, pre.length, h1, .inr ⟨h3, by rw [hT]; exact h2.len⟩⟩

theorem pass2 (b : List UInt8) (n : Nat) (hn : n = b.length) (hl : n ≤ 1048576) (A : Option Addr) (c : Nat) (hc : n ≤ c) (w5 : World) (T wc wb : Nat) (hT : T = (decR 0 b).length) (R : Option Addr)
    (hw : Boxed w5 wb 23 (.slice R T wc)) (hW : WantAt w5 w5.heap.size R b) (hr : Rd w5 w5.heap.size A (bv b)) (W : World) (hP : PassOut w5 0 A n c W) (z : Nat) (hz : z = w5.heap.size) :
    Calls Try.prog 24 #[.func (.func 18) #[] #[.pointer (some ⟨z + 1, 0, none⟩), .pointer (some ⟨z, 0, none⟩), .pointer (some ⟨wb, 0, none⟩)], .pointer (some ⟨z + 2, 0, none⟩)] W
      fun e W' => (∃ v, e = .returned v) ∧ PassOut w5 T A n c W' := by
  subst hz
  have hs5 := hP.1.size
  have hlx := hP.2.2.2.lt
  have hTl : T ≤ 1048576 := by rw [hT]; exact Nat.le_trans (decR_len _ 0 b (Nat.le_refl _)) (by omega)
  refine (eachp_18 b n hn (by omega) A c w5.heap.size (w5.heap.size + 2) W.heap.size (w5.heap.size + 1) w5.heap.size wb hc W (hr.below hP.1) hs5 hP.2.2.2 rfl
    (fun pre W1 => PassOut w5 pre.length A n c W1) (fun _ _ => False) ?_ hP).mono ?_
  · intro pre x W1 W2 hJ1 ht hR
    have h2 := hJ1.gr ht (by omega)
    obtain ⟨hget, hlt, hdl⟩ := rec_get hR
    obtain ⟨g, D, c', rfl, hg, e0, e1, e2, e3, e4, hrd⟩ := (hW.below h2.1) _ _ _ hget
    have hwb := (h2.1.block wb hw.lt).trans hw
    have lw := hw.lt
    refine (cl18_any x.k pre.length T x.s.op x.s.a x.s.b x.s.data x.s.data.length rfl x.A D x.c c' g wc (w5.heap.size + 1) w5.heap.size wb _ _ W2 h2.2.1 h2.2.2.1 hwb (by omega) (by omega) (by omega) e0 e1 e2 e3 e4 hR.1.rd hrd (Nat.le_refl _) h2.1.size (by omega) (by omega) (by omega) (Nat.lt_of_lt_of_le hg h2.1.size)).mono ?_
    rintro e W3 ⟨rfl, h4, h5, h6⟩
    have hout : PassOut w5 (pre ++ [x]).length A n c W3 := by
      refine ⟨h2.1.trans (h6.below (fun k hk => by omega) h2.1.size), h4, by rw [List.length_append]; simpa using h5, h6.boxed h2.2.2.2 (by omega)⟩
    exact .inl ⟨rfl, hout, h6.mono fun k hk => by unfold KeptM at hk; omega⟩
  · rintro e W' ⟨hv, ⟨xs, W1, hS, h1, ht⟩ | ⟨pre, h1⟩⟩
    · refine ⟨hv, ?_⟩
      have : T = xs.length := by rw [hT, ← hS, List.length_map]
      rw [this]
      exact h1.gr ht (by omega)
    · exact h1.elim

end Go.Proofs.Ytpafimjdlbnckaa
