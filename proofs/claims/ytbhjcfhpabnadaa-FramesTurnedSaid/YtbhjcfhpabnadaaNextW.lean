/-
  What Next answers, as plain data; the walk of sum.Next.
-/
import Derived.Test.YtbhjcfhpabnadaaKept
namespace Go.Proofs.Ytbhjcfhpabnadaa
open Go.RowKit

/-- The payload that some bytes begin with. -/
def nextS : List UInt8 → Option (List UInt8)
  | a :: b :: c :: d :: e :: f :: g :: h :: r =>
    if num4 a b c d ≤ 131072 ∧ num4 a b c d ≤ r.length ∧ more 0 ([a, b, c, d] ++ r.take (num4 a b c d)) = num4 e f g h then some (r.take (num4 a b c d)) else none
  | _ => none

theorem nextS_short {b : List UInt8} (h : b.length < 8) : nextS b = none := by
  match b, h with
  | [], _ => rfl
  | [_], _ => rfl
  | [_, _], _ => rfl
  | [_, _, _], _ => rfl
  | [_, _, _, _], _ => rfl
  | [_, _, _, _, _], _ => rfl
  | [_, _, _, _, _, _], _ => rfl
  | [_, _, _, _, _, _, _], _ => rfl
  | _ :: _ :: _ :: _ :: _ :: _ :: _ :: _ :: _, h => simp at h; omega

theorem long_form {b : List UInt8} (h : 8 ≤ b.length) : ∃ x0 x1 x2 x3 x4 x5 x6 x7 r, b = x0 :: x1 :: x2 :: x3 :: x4 :: x5 :: x6 :: x7 :: r := by
  match b, h with
  | x0 :: x1 :: x2 :: x3 :: x4 :: x5 :: x6 :: x7 :: r, _ => exact ⟨x0, x1, x2, x3, x4, x5, x6, x7, r, rfl⟩
  | [], h => simp at h
  | [_], h => simp at h
  | [_, _], h => simp at h
  | [_, _, _], h => simp at h
  | [_, _, _, _], h => simp at h
  | [_, _, _, _, _], h => simp at h
  | [_, _, _, _, _, _], h => simp at h
  | [_, _, _, _, _, _, _], h => simp at h

theorem num4_lt (a b c d : UInt8) : num4 a b c d < 4294967296 := by
  have ua := u8_lt a
  have ub := u8_lt b
  have uc := u8_lt c
  have ud := u8_lt d
  unfold num4
  omega

/-- What Next leaves. -/
def NextOut (w : World) (o : Option (List UInt8)) (e : Ending) (w' : World) : Prop :=
  Below w.heap.size w w' ∧ match o with
    | none => e = .returned (.tuple #[.slice none 0 0, .int .i64 0, .int .i64 10])
    | some p => ∃ A c, e = .returned (.tuple #[.slice A p.length c, .int .i64 ((8 + p.length : Nat) : Int), .int .i64 0]) ∧ Own w' w.heap.size 5 1 A p.length c (bv p)

theorem next_none {w w' : World} {o : Option (List UInt8)} (h : o = none) (hb : Below w.heap.size w w') : NextOut w o (.returned (.tuple #[.slice none 0 0, .int .i64 0, .int .i64 10])) w' := by
  subst h
  exact ⟨hb, rfl⟩

theorem next_some {w w' : World} {o : Option (List UInt8)} {p : List UInt8} {n cc : Nat} {C : Option Addr} (h : o = some p) (hn : n = p.length) (hb : Below w.heap.size w w') (ho : Own w' w.heap.size 5 1 C p.length cc (bv p)) :
    NextOut w o (.returned (.tuple #[.slice C p.length cc, .int .i64 (8 + (n : Int)), .int .i64 0])) w' := by
  subst h hn
  exact ⟨hb, C, cc, by simp, ho⟩

/-- A cut of bytes that are read. -/
theorem cut_rd {w : World} {B g o k lo n : Nat} {xs : List UInt8} (h : Rd w B (some ⟨g, o, none⟩) (bv xs)) (hk : xs.length ≤ k) :
    ∃ S, (if k = lo then some (⟨g, o, none⟩ : Addr) else some ⟨g, o + lo, none⟩) = S ∧ Rd w B S (bv ((xs.drop lo).take n)) := by
  refine ⟨_, rfl, ?_⟩
  have h1 := (h.cut lo k (by rw [bv_length]; exact hk)).take n
  have e : bv ((xs.drop lo).take n) = ((bv xs).drop lo).take n := by simp [bv, List.map_take, List.map_drop]
  rw [e]
  simpa [Addr.add_lit] using h1

theorem clone_at (xs : List UInt8) (n : Nat) (hn : n = xs.length) (A : Option Addr) (c B : Nat) (w : World) (hx : Rd w B A (bv xs)) (hB : B ≤ w.heap.size) (hl : n ≤ 140737488355328) :
    Calls Try.prog 53 #[.slice A n c] w (Cloned w xs) := by
  subst hn
  exact clone_any xs A c B w hx hB hl

theorem quiet_more {P : Program} {f : FuncId} {args : Array Value} {w : World} {a n : Nat} {v : Value}
    (h : Calls P f args (w.drewN (a + n)) fun e w' => e = .returned v ∧ ∃ m, w' = (w.drewN (a + n)).drewN m) :
    Calls P f args (w.drewN (a + n)) fun e w' => e = .returned v ∧ ∃ m, w' = w.drewN (a + m) :=
  h.mono fun _ _ ⟨he, m, hm⟩ => ⟨he, n + m, by rw [hm, World.drewN_drewN, Nat.add_assoc]⟩
theorem quiet_same {P : Program} {f : FuncId} {args : Array Value} {w : World} {a n : Nat} {v : Value}
    (h : Calls P f args (w.drewN (a + n)) fun e w' => e = .returned v ∧ w.drewN (a + n) = w') :
    Calls P f args (w.drewN (a + n)) fun e w' => e = .returned v ∧ ∃ m, w' = w.drewN (a + m) :=
  h.mono fun _ _ ⟨he, hm⟩ => ⟨he, n, hm.symm⟩

set_option maxRecDepth 100000 in
set_option maxHeartbeats 800000 in
theorem pnext_any (b : List UInt8) (N : Nat) (hN : N = b.length) (A : Option Addr) (k B : Nat) (w : World) (hx : Rd w B A (bv b)) (hB : B ≤ w.heap.size) (hk : N ≤ k) (hl : b.length ≤ 4294967303) :
    Calls Try.prog 18 #[.slice A N k] w (NextOut w (nextS b)) := by
  by_cases h8 : b.length < 8
  · have HO := Lib.hid (next_none (w := w) (w' := w) (nextS_short h8) (Below.refl _ _))
    have hN8 : (N : Int) < 8 := by omega
    clear hN
    go_enter Try.func18, Try.ntmps18
    go_wp2
    go_ret3
    exact HO.out
  · obtain ⟨x0, x1, x2, x3, x4, x5, x6, x7, r, rfl⟩ := long_form (b := b) (by omega)
    have hNr : N = r.length + 8 := by rw [hN]; simp
    have HN := Lib.hid hNr
    have h8' : (8 : Int) ≤ (N : Int) := by omega
    have hNu : (N : Int) - 8 ≤ 4294967295 := by simp at hl; omega
    have hn32 := num4_lt x0 x1 x2 x3
    obtain ⟨n, hn⟩ : ∃ n, n = num4 x0 x1 x2 x3 := ⟨_, rfl⟩
    by_cases hbad : n ≤ 131072 ∧ n ≤ r.length
    · obtain ⟨hb1, hb2⟩ := hbad
      obtain ⟨g, o, rfl, hgB, _⟩ := hx.at_ (by simp)
      have hk8 : (x0 :: x1 :: x2 :: x3 :: x4 :: x5 :: x6 :: x7 :: r).length ≤ k := by rw [← hN]; exact hk
      obtain ⟨S, hS, hrS⟩ := cut_rd (lo := 8) (n := n) hx hk8
      have hr4 := hx.take 4
      obtain ⟨p, hp⟩ : ∃ p, p = r.take n := ⟨_, rfl⟩
      have hpl : n = p.length := by rw [hp, List.length_take]; omega
      rw [show ((x0 :: x1 :: x2 :: x3 :: x4 :: x5 :: x6 :: x7 :: r).drop 8).take n = p by rw [hp]; rfl] at hrS
      rw [show (bv (x0 :: x1 :: x2 :: x3 :: x4 :: x5 :: x6 :: x7 :: r)).take 4 = bv [x0, x1, x2, x3] by simp [bv]] at hr4
      obtain ⟨S4, hS4, hr44⟩ := cut_rd (lo := 4) (n := N) hx hk8
      rw [if_neg (show ¬ k = 4 by omega)] at hS4
      subst hS4
      rw [show ((x0 :: x1 :: x2 :: x3 :: x4 :: x5 :: x6 :: x7 :: r).drop 4).take N = x4 :: x5 :: x6 :: x7 :: r by
        rw [List.take_of_length_le (by simp; omega)]; rfl] at hr44
      have HNUM := Lib.hid (number_any x0 x1 x2 x3 (x4 :: x5 :: x6 :: x7 :: r) _ N k B w hx (by simp; omega))
      rw [← hn] at HNUM hn32
      have HNUM2 := Lib.hid (fun (m : Nat) => number_any x4 x5 x6 x7 r (some ⟨g, o + 4, none⟩) (N - 4) (k - 4) B (w.drewN m) hr44 (by omega))
      have HCRC := Lib.hid (fun (m : Nat) => crc_at [x0, x1, x2, x3] 4 rfl (some ⟨g, o, none⟩) k B (w.drewN m) hr4 (by simp))
      have hm1 := more_lt (c := 0) [x0, x1, x2, x3] (by omega)
      obtain ⟨m1, hm1e⟩ : ∃ m1, m1 = more 0 [x0, x1, x2, x3] := ⟨_, rfl⟩
      rw [← hm1e] at hm1 HCRC
      have HMORE := Lib.hid (fun (m : Nat) => more_at m1 p n hpl S (k - 8) B (w.drewN m) hrS hm1 (by omega))
      obtain ⟨m2, hm2e⟩ : ∃ m2, m2 = more m1 p := ⟨_, rfl⟩
      rw [← hm2e] at HMORE
      obtain ⟨n2, hn2e⟩ : ∃ n2, n2 = num4 x4 x5 x6 x7 := ⟨_, rfl⟩
      rw [← hn2e] at HNUM2
      have hN8 : n + 8 ≤ N := by omega
      have hS0 : 0 < N := by omega
      have HP := Lib.hid hpl
      have HRS := Lib.hid hrS
      by_cases hsum : m2 = n2
      · have hne : ((m2 : Int) != (n2 : Int)) = false := by simp [hsum]
        have HO := Lib.hid (show nextS (x0 :: x1 :: x2 :: x3 :: x4 :: x5 :: x6 :: x7 :: r) = some p by
          simp only [nextS]
          rw [← hn, ← hp, if_pos ⟨hb1, hb2, by rw [← more_append, ← hm1e, ← hm2e, ← hn2e, hsum]⟩])
        clear hsum hm2e hn2e hm1e hn hp hpl hrS hr4 hr44 hx hNr hN hk8 hl h8
        go_enter Try.func18, Try.ntmps18
        go_wp2_with (first | (go_at_call 52; refine HNUM.out.mono ?_; rintro e w1 ⟨rfl, m, rfl⟩) | fail)
        have hk4 : ¬ k = 4 := by omega
        go_quiet (first | (go_at_call 23; exact quiet_same (HCRC.out _)) | (go_at_call 25; exact quiet_same (HMORE.out _)) | (go_at_call 52; exact quiet_more (HNUM2.out _)))
        go_wp2_with (first | (go_at_call 53; refine (clone_at p _ (by have := HP.out; omega) S (k - 8) B _ (by exact HRS.out) (by exact hB) (by omega)).mono ?_; rintro e w2 ⟨C, cc, rfl, hown, hbel⟩) | fail)
        go_ret3
        exact next_some HO.out HP.out ((below_drewN (Below.refl _ _) _).trans hbel) hown
      · have hne : ((m2 : Int) != (n2 : Int)) = true := by rw [bne_iff_ne]; omega
        have HO := Lib.hid (fun (m : Nat) => next_none (w := w) (w' := w.drewN m) (show nextS (x0 :: x1 :: x2 :: x3 :: x4 :: x5 :: x6 :: x7 :: r) = none by
          simp only [nextS]
          rw [← hn, ← hp, if_neg (by rintro ⟨_, _, h3⟩; rw [← more_append, ← hm1e, ← hm2e, ← hn2e] at h3; exact hsum h3)]) (below_drewN (Below.refl _ _) m))
        clear hsum hm2e hn2e hm1e hn hp hpl hrS hr4 hr44 hx hNr hN hk8 hl h8
        go_enter Try.func18, Try.ntmps18
        go_wp2_with (first | (go_at_call 52; refine HNUM.out.mono ?_; rintro e w1 ⟨rfl, m, rfl⟩) | fail)
        have hk4 : ¬ k = 4 := by omega
        go_quiet (first | (go_at_call 23; exact quiet_same (HCRC.out _)) | (go_at_call 25; exact quiet_same (HMORE.out _)) | (go_at_call 52; exact quiet_more (HNUM2.out _)))
        go_wp2
        go_ret3
        show NextOut w (nextS (x0 :: x1 :: x2 :: x3 :: x4 :: x5 :: x6 :: x7 :: r)) (.returned (.tuple #[.slice none 0 0, .int .i64 0, .int .i64 10])) _
        rw [World.drewN_drewN]
        exact HO.out _
    · have HO := Lib.hid (fun (m : Nat) => next_none (w := w) (w' := w.drewN m) (o := nextS (x0 :: x1 :: x2 :: x3 :: x4 :: x5 :: x6 :: x7 :: r)) (by simp only [nextS]; rw [if_neg (by rw [← hn]; omega)]) (below_drewN (Below.refl _ _) m))
      rw [← hn] at hn32
      have HNUM := Lib.hid (number_any x0 x1 x2 x3 (x4 :: x5 :: x6 :: x7 :: r) A N k B w hx (by simp; omega))
      rw [← hn] at HNUM
      have hcs : 131072 < n ∨ (n ≤ 131072 ∧ N < n + 8) := by omega
      clear hbad hx hl h8 hN hn hNr
      rcases hcs with hc | ⟨hc1, hc2⟩
      all_goals
        go_enter Try.func18, Try.ntmps18
        go_wp2_with (first | (go_at_call 52; refine HNUM.out.mono ?_; rintro e w1 ⟨rfl, m, rfl⟩) | fail)
        go_ret3
        exact HO.out m

end Go.Proofs.Ytbhjcfhpabnadaa
