/-
  The walk of turnpikeref01's Next.
-/
import Derived.Test.YtbhjcfhpabnadaaNextW
import Derived.Test.YtbhjcfhpabnadaaSF
namespace Go.Proofs.Ytbhjcfhpabnadaa
open Go.RowKit

theorem next_some2 {w w' : World} {o : Option (List UInt8)} {p : List UInt8} {n cc : Nat} {C : Option Addr} (h : o = some p) (hn : n = p.length) (hb : Below w.heap.size w w') (ho : Own w' w.heap.size 5 1 C n cc (bv p)) :
    NextOut w o (.returned (.tuple #[.slice C n cc, .int .i64 (8 + (n : Int)), .int .i64 0])) w' := by
  subst h hn
  exact ⟨hb, C, cc, by simp, ho⟩

theorem be4_num4 (a b c d : UInt8) : be4 (num4 a b c d) = [a, b, c, d] := by
  have ua := u8_lt a
  have ub := u8_lt b
  have uc := u8_lt c
  have ud := u8_lt d
  have key : ∀ (x : UInt8) (n : Nat), n = x.toNat → UInt8.ofNat n = x := fun x n h => by rw [h]; simp
  unfold be4 num4
  rw [key a _ (by omega), key b _ (by omega), key c _ (by omega), key d _ (by omega)]

theorem be4_inj {m n : Nat} (hm : m < 4294967296) (hn : n < 4294967296) (h : be4 m = be4 n) : m = n := by
  have hb : bv (be4 m) = bv (be4 n) := by rw [h]
  rw [be4_bv hm, be4_bv hn] at hb
  simp only [List.cons.injEq, Value.int.injEq, and_true, true_and] at hb
  omega

/-- A frame stands at the head of some bytes: just when the sum is right. -/
theorem frame_head {x0 x1 x2 x3 x4 x5 x6 x7 : UInt8} {p : List UInt8} (hn : num4 x0 x1 x2 x3 = p.length) :
    ((str (frame p)).toList == (str (x0 :: x1 :: x2 :: x3 :: x4 :: x5 :: x6 :: x7 :: p)).toList) = decide (more 0 ([x0, x1, x2, x3] ++ p) = num4 x4 x5 x6 x7) := by
  rw [str_list, str_list]
  have hb : be4 p.length = [x0, x1, x2, x3] := by rw [← hn, be4_num4]
  unfold frame
  rw [hb, Bool.eq_iff_iff, beq_iff_eq, decide_eq_true_iff]
  constructor
  · intro e
    have e2 : be4 (more 0 ([x0, x1, x2, x3] ++ p)) = [x4, x5, x6, x7] := by
      have : [x0, x1, x2, x3] ++ (be4 (more 0 ([x0, x1, x2, x3] ++ p)) ++ p) = [x0, x1, x2, x3] ++ ([x4, x5, x6, x7] ++ p) := by
        rw [← List.append_assoc, e]
        rfl
      exact List.append_cancel_right (List.append_cancel_left this)
    rw [← be4_num4 x4 x5 x6 x7] at e2
    exact be4_inj (more_lt _ (by omega)) (num4_lt _ _ _ _) e2
  · intro e
    rw [e, be4_num4]
    rfl

/-- A part of bytes that are read. -/
theorem part_rd {w : World} {B g o k lo n : Nat} {xs : List UInt8} (h : Rd w B (some ⟨g, o, none⟩) (bv xs)) (hk : xs.length ≤ k) (hlo : lo ≠ k) :
    Rd w B (some ⟨g, o + lo, none⟩) (bv ((xs.drop lo).take n)) := by
  obtain ⟨S, hS, hr⟩ := cut_rd (lo := lo) (n := n) h hk
  rw [if_neg (fun e => hlo e.symm)] at hS
  subst hS
  exact hr

theorem num4_val (a b c d : UInt8) : (a.toNat : Int) * 16777216 + (b.toNat : Int) * 65536 + (c.toNat : Int) * 256 + (d.toNat : Int) = ((num4 a b c d : Nat) : Int) := by
  unfold num4
  omega

set_option maxRecDepth 100000 in
set_option maxHeartbeats 800000 in
theorem rnext_any (b : List UInt8) (N : Nat) (hN : N = b.length) (A : Option Addr) (k B : Nat) (w : World) (hx : Rd w B A (bv b)) (hB : B ≤ w.heap.size) (hk : N ≤ k) (hl : b.length ≤ 4294967303) :
    Calls Try.prog 19 #[.slice A N k] w (NextOut w (nextS b)) := by
  by_cases h8 : b.length < 8
  · have HO := Lib.hid (next_none (w := w) (w' := w) (nextS_short h8) (Below.refl _ _))
    have hN8 : (N : Int) < 8 := by omega
    clear hN
    go_enter Try.func19, Try.ntmps19
    go_wp2
    go_ret3
    exact HO.out
  · obtain ⟨x0, x1, x2, x3, x4, x5, x6, x7, r, rfl⟩ := long_form (b := b) (by omega)
    have hNr : N = r.length + 8 := by rw [hN]; simp
    have HN := Lib.hid hNr
    have h8' : (8 : Int) ≤ (N : Int) := by omega
    have hNu : (N : Int) - 8 ≤ 4294967295 := by simp at hl; omega
    have hn32 := num4_lt x0 x1 x2 x3
    have HV := Lib.hid (num4_val x0 x1 x2 x3)
    obtain ⟨n, hn⟩ : ∃ n, n = num4 x0 x1 x2 x3 := ⟨_, rfl⟩
    obtain ⟨g, o, rfl, hgB, hc⟩ := hx.at_ (by simp)
    have h0 := hc 0 (by simp)
    have h1 := hc 1 (by simp)
    have h2 := hc 2 (by simp)
    have h3 := hc 3 (by simp)
    simp only [List.getElem_cons_zero, List.getElem_cons_succ, Nat.add_zero] at h0 h1 h2 h3
    have l0 : 0 < N := by omega
    have l1 : (1 : Int) < (N : Int) := by omega
    have l2 : (2 : Int) < (N : Int) := by omega
    have l3 : (3 : Int) < (N : Int) := by omega
    have u0 := u8_lt x0
    have u1 := u8_lt x1
    have u2 := u8_lt x2
    have u3 := u8_lt x3
    rw [← hn] at HV hn32
    by_cases hbad : n ≤ 131072 ∧ n ≤ r.length
    · obtain ⟨hb1, hb2⟩ := hbad
      have hk8 : (x0 :: x1 :: x2 :: x3 :: x4 :: x5 :: x6 :: x7 :: r).length ≤ k := by rw [← hN]; exact hk
      obtain ⟨S, hS, hrS⟩ := cut_rd (lo := 8) (n := n) hx hk8
      have hrW := hx.take (8 + n)
      obtain ⟨p, hp⟩ : ∃ p, p = r.take n := ⟨_, rfl⟩
      have hpl : n = p.length := by rw [hp, List.length_take]; omega
      rw [show ((x0 :: x1 :: x2 :: x3 :: x4 :: x5 :: x6 :: x7 :: r).drop 8).take n = p by rw [hp]; rfl] at hrS
      rw [show (bv (x0 :: x1 :: x2 :: x3 :: x4 :: x5 :: x6 :: x7 :: r)).take (8 + n) = bv ([x0, x1, x2, x3, x4, x5, x6, x7] ++ p) by
        rw [hp, Nat.add_comm]; simp [bv, List.map_take]] at hrW
      have HRS := Lib.hid hrS
      have HRW := Lib.hid hrW
      have hN8 : n + 8 ≤ N := by omega
      have HP := Lib.hid hpl
      have hfr : frO p = frame p := by unfold frO; rw [if_pos (by omega)]
      have hfe : frE p = 0 := by unfold frE; rw [if_pos (by omega)]
      have HFL := Lib.hid (show (frame p).length = 8 + n by rw [frame_len, hpl])
      have HH := Lib.hid (frame_head (x0 := x0) (x1 := x1) (x2 := x2) (x3 := x3) (x4 := x4) (x5 := x5) (x6 := x6) (x7 := x7) (p := p) (by rw [← hn]; exact hpl))
      have hfa : ∀ m, Calls Try.prog 22 #[.slice S n (k - 8)] (w.drewN m) (PairOut (w.drewN m) (frame p) 0) := fun m => by
        have := rframe_at p n hpl S (k - 8) B (w.drewN m) hrS hB (by omega)
        rw [hfr, hfe] at this
        exact this
      clear hrS hrW
      obtain ⟨m2, hm2⟩ : ∃ m2, m2 = more 0 ([x0, x1, x2, x3] ++ p) := ⟨_, rfl⟩
      obtain ⟨n2, hn2e⟩ : ∃ n2, n2 = num4 x4 x5 x6 x7 := ⟨_, rfl⟩
      rw [← hm2, ← hn2e] at HH
      have HS : nextS (x0 :: x1 :: x2 :: x3 :: x4 :: x5 :: x6 :: x7 :: r) = if m2 = n2 then some p else none := by
        simp only [nextS]
        rw [← hn, ← hp, ← hm2, ← hn2e]
        simp only [hb1, hb2, true_and]
      have HSh := Lib.hid HS
      clear HS hm2 hn2e hn hp hpl hx hNr hN hk8 hl h8 hfr hfe hc
      go_enter Try.func19, Try.ntmps19
      go_wp2
      go_quiet (fail)
      rw [HV.out]
      have hk8n : 8 + n ≤ k := by omega
      have hkb : k = k := rfl
      go_wp2_with (first | (go_at_call 22; refine (hfa nq).mono ?_; rintro e w1 ⟨F, kF, rfl, hF, hbF⟩) | fail)
      have hrw1 := Rd.below (w := w.drewN nq) HRW.out (hbF.mono hB)
      have HS1 := Lib.hid (Rd.below (w := w.drewN nq) HRS.out (hbF.mono hB))
      have hBs := Nat.le_trans hB hbF.size
      have HBF := Lib.hid (show Below w.heap.size w w1 from (below_drewN (Below.refl _ _) nq).trans hbF)
      have cv1 := fun m => conv_any (w := w1.drewN m) hF.rd (frame p).length rfl kF
      have cv2 := fun m => conv_any (w := w1.drewN m) hrw1 (8 + n) (by rw [List.length_append, HP.out]; rfl) k
      have cv10 := cv1 0
      have cv20 := cv2 0
      go_quiet (fail)
      clear cv1 cv2 cv10 cv20
      by_cases hsum : m2 = n2
      · have HO := Lib.hid (HSh.out.trans (if_pos hsum))
        have hne : ((str (frame p)).toList == (str (x0 :: x1 :: x2 :: x3 :: x4 :: x5 :: x6 :: x7 :: p)).toList) = true := by rw [HH.out]; simp [hsum]
        rw [hne]
        clear HH HSh hsum hfa hne
        go_wp2_with (first
          | (at_builtin; (refine wpList_app rfl (.tmp 61) (.tmp 64) 22 rfl w1.heap.size 5 1 1 Try.el22 _ 0 0 [] rfl (Own.made (Nat.le_refl _)) B _ _ _ (bv p) rfl (by (first | exact Rd.alloc (w := w1.drewN _) HS1.out hBs _ | (rw [hS]; exact Rd.alloc (w := w1.drewN _) HS1.out hBs _))) (by have := HP.out; simp [bv]; omega) (bv_one p) n (bv p) (by omega) rfl (by omega) (by unfold maxLen; omega) (by simp) ?_); intro A2 c2 w2 hown2 hg2 hat2)
          | fail)
        go_ret3
        have hown3 := hown2.base_le HBF.out.size
        have hpl := HP.out
        have hb2 : Below w1.heap.size (w1.drewN nq) w2 := below_own ((Below.refl w1.heap.size (w1.drewN nq)).alloc (Nat.le_refl _) _) hg2 (Own.made (size := 1) (Nat.le_refl _)) (by simp)
        exact next_some2 HO.out hpl ((below_drewN HBF.out nq).trans (hb2.mono HBF.out.size)) hown3
      · have HO := Lib.hid (HSh.out.trans (if_neg hsum))
        have hne : ((str (frame p)).toList == (str (x0 :: x1 :: x2 :: x3 :: x4 :: x5 :: x6 :: x7 :: p)).toList) = false := by rw [HH.out]; simp [hsum]
        have HB := Lib.hid (fun m => show Below w.heap.size w (w1.drewN m) from below_drewN HBF.out m)
        rw [hne]
        clear HH HSh hsum hfa hne
        go_wp2
        go_ret3
        exact next_none HO.out (HB.out _)
    · have HO := Lib.hid (fun (m : Nat) => next_none (w := w) (w' := w.drewN m) (o := nextS (x0 :: x1 :: x2 :: x3 :: x4 :: x5 :: x6 :: x7 :: r)) (by simp only [nextS]; rw [if_neg (by rw [← hn]; omega)]) (below_drewN (Below.refl _ _) m))
      have hcs : 131072 < n ∨ (n ≤ 131072 ∧ N < n + 8) := by omega
      clear hbad hx hl h8 hN hn hNr hc
      rcases hcs with hc | ⟨hc1, hc2⟩
      all_goals
        go_enter Try.func19, Try.ntmps19
        go_wp2
        go_quiet (fail)
        rw [HV.out]
        go_wp2
        go_ret3
        exact HO.out nq

end Go.Proofs.Ytbhjcfhpabnadaa
