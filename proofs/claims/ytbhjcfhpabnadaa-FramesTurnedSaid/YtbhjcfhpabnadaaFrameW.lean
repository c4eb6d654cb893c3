/-
  The walks of sum.four and sum.Frame.
-/
import Derived.Test.YtbhjcfhpabnadaaConcat
import Derived.Laws.ResultCell
namespace Go.Proofs.Ytbhjcfhpabnadaa
open Go.RowKit

set_option maxHeartbeats 400000 in
theorem pfour_any (n : Nat) (w : World) (hn : n < 4294967296) : Calls Try.prog 54 #[.int .u32 n] w fun e w' => e = .returned (.agg #[.int .u8 ((n : Int) / 16777216), .int .u8 ((n : Int) / 65536 % 256), .int .u8 ((n : Int) / 256 % 256), .int .u8 ((n : Int) % 256)]) ∧ Below w.heap.size w w' := by
  go_enter Try.func54, Try.ntmps54
  go_wp2
  refine bodyPost_ret (v := .agg #[.int .u8 ((n : Int) / 16777216), .int .u8 ((n : Int) / 65536 % 256), .int .u8 ((n : Int) / 256 % 256), .int .u8 ((n : Int) % 256)]) (by simp [results, Try.results54, go_sem]) rfl ⟨rfl, ?_⟩
  exact ((Below.refl _ _).alloc (Nat.le_refl _) _)

theorem be4_rd {w : World} {n b : Nat} (hn : n < 4294967296) (t B : Nat) (hb : b = w.heap.size) (hB : b < B) :
    Rd (w.alloc (.cells #[.int .u8 ((n : Int) / 16777216), .int .u8 ((n : Int) / 65536 % 256), .int .u8 ((n : Int) / 256 % 256), .int .u8 ((n : Int) % 256)] t)) B (some ⟨b, 0, none⟩) (bv (be4 n)) := by
  subst hb
  rw [be4_bv hn]
  exact new_rd w _ t B hB

theorem more_at (c : Nat) (xs : List UInt8) (n : Nat) (hn : n = xs.length) (A : Option Addr) (k B : Nat) (w : World) (hx : Rd w B A (bv xs)) (hc : c < 4294967296) (hl : xs.length ≤ 9223372036854775807) :
    Calls Try.prog 25 #[.int .u32 c, .slice A n k] w fun e w' => e = .returned (.int .u32 (more c xs : Nat)) ∧ w = w' := by
  subst hn
  exact more_any c xs A k B w hx hc hl
theorem crc_at (xs : List UInt8) (n : Nat) (hn : n = xs.length) (A : Option Addr) (k B : Nat) (w : World) (hx : Rd w B A (bv xs)) (hl : xs.length ≤ 9223372036854775807) :
    Calls Try.prog 23 #[.slice A n k] w fun e w' => e = .returned (.int .u32 (more 0 xs : Nat)) ∧ w = w' := by
  subst hn
  exact crc_any xs A k B w hx hl

theorem new_cell {w : World} {cs : Array Value} {t g i : Nat} {v : Value} (hg : g = w.heap.size) (hv : cs[i]? = some v) : (w.alloc (.cells cs t)).cell? ⟨g, i, none⟩ = some v := by
  subst hg
  rw [World.cell?_alloc_new]
  exact hv

theorem three_sl {W : World} {B G : Nat} {x0 x1 x2 : List UInt8} {S0 S1 S2 : Option Addr} {c0 c1 c2 : Nat} (hG : G < B) (h0 : W.cell? ⟨G, 0, none⟩ = some (.slice S0 x0.length c0)) (h1 : W.cell? ⟨G, 1, none⟩ = some (.slice S1 x1.length c1))
    (h2 : W.cell? ⟨G, 2, none⟩ = some (.slice S2 x2.length c2)) (r0 : Rd W B S0 (bv x0)) (r1 : Rd W B S1 (bv x1)) (r2 : Rd W B S2 (bv x2)) : SlAt W B (some ⟨G, 0, none⟩) [x0, x1, x2] := by
  intro k hk
  match k, hk with
  | 0, _ => exact ⟨G, 0, S0, c0, rfl, hG, h0, r0⟩
  | 1, _ => exact ⟨G, 0, S1, c1, rfl, hG, h1, r1⟩
  | 2, _ => exact ⟨G, 0, S2, c2, rfl, hG, h2, r2⟩

theorem cat_frame {p : List UInt8} {m1 m2 : Nat} (h1 : m1 = more 0 (be4 p.length)) (h2 : m2 = more m1 p) : cat [be4 p.length, be4 m2, p] = frame p := by
  subst h2 h1
  rw [more_append]
  simp [cat, frame]

set_option maxRecDepth 100000 in
set_option maxHeartbeats 800000 in
theorem frame_any (p : List UInt8) (A : Option Addr) (k B : Nat) (w : World) (hx : Rd w B A (bv p)) (hB : B ≤ w.heap.size) (hl : p.length ≤ 9223372036854775807) :
    Calls Try.prog 21 #[.slice A p.length k] w (FrameOut w p) := by
  by_cases hlong : p.length ≤ 131072
  · have tok1 : True := trivial
    have hm1 := more_lt (c := 0) (be4 p.length) (by omega)
    obtain ⟨m1, e1⟩ : ∃ m1, m1 = more 0 (be4 p.length) := ⟨_, rfl⟩
    rw [← e1] at hm1
    have hm2 := more_lt p hm1
    obtain ⟨m2, e2⟩ : ∃ m2, m2 = more m1 p := ⟨_, rfl⟩
    rw [← e2] at hm2
    have E1 := Lib.hid e1
    have E2 := Lib.hid e2
    clear e1 e2
    have hpl : p.length < 4294967296 := by omega
    go_enter Try.func21, Try.ntmps21
    go_wp2_with (first
      | (go_at_call 54; have _t := tok1; refine (pfour_any p.length _ hpl).mono ?_; rintro e w1 ⟨rfl, b1⟩; clear tok1 _t)
      | (go_at_call 54; refine (pfour_any m2 _ hm2).mono ?_; rintro e w3 ⟨rfl, b3⟩)
      | (go_at_call 23; refine (crc_at (be4 p.length) 4 rfl _ _ (w1.heap.size + 1) _ (be4_rd hpl 97 _ rfl (Nat.lt_succ_self _)) (by rw [be4_len]; omega)).mono ?_; rintro e w2 ⟨rfl, rfl⟩; rw [← E1.out])
      | (go_at_call 25; refine (more_any m1 p A k B _ ((hx.below (b1.mono hB)).alloc (Nat.le_trans hB b1.size) _) hm1 hl).mono ?_; rintro e w2 ⟨rfl, rfl⟩; rw [← E2.out])
      | fail)
    have hS := Lib.hid (show SlAt (((w3.alloc (.cells #[.int .u8 ((m2 : Int) / 16777216), .int .u8 ((m2 : Int) / 65536 % 256), .int .u8 ((m2 : Int) / 256 % 256), .int .u8 ((m2 : Int) % 256)] 97)).alloc (.cells #[.slice (some ⟨w1.heap.size, 0, none⟩) 4 4, .slice (some ⟨w3.heap.size, 0, none⟩) 4 4, .slice A p.length k] 22)).drew) (w3.heap.size + 2) (some ⟨w3.heap.size + 1, 0, none⟩) [be4 p.length, be4 m2, p] from by
      have hz := b3.size
      simp only [World.size_alloc] at hz
      have r1 : Rd w3 (w1.heap.size + 1) (some ⟨w1.heap.size, 0, none⟩) (bv (be4 p.length)) := (be4_rd hpl 97 _ rfl (Nat.lt_succ_self _)).below (b3.mono (by simp))
      have r3 : Rd w3 B A (bv p) := ((hx.below (b1.mono hB)).alloc (Nat.le_trans hB b1.size) _).below (b3.mono (by simp; exact Nat.le_succ_of_le (Nat.le_trans hB b1.size)))
      have hB3 : B ≤ w3.heap.size := by have := b1.size; omega
      refine three_sl (by omega) (new_cell (by simp) rfl) (new_cell (by simp) rfl) (new_cell (by simp) rfl) ?_ ?_ ?_
      · exact ((r1.alloc (by omega) _).alloc (by simp; omega) _).more (by omega)
      · exact ((be4_rd hm2 97 (w3.heap.size + 1) rfl (by omega)).alloc (by simp) _).more (by omega)
      · exact ((r3.alloc hB3 _).alloc (by simp; omega) _).more (by omega))
    have hF := Lib.hid (cat_frame E1.out E2.out)
    go_region_held3 (fun _ => True) (trivial)
      ((go_at_call 55; refine (concat_any [be4 p.length, be4 m2, p] 3 rfl _ _ _ _ hS.out (by simp) (by simp) (by rw [hF.out, frame_len]; omega) (by rw [hF.out, frame_len]; omega)).mono ?_; rintro e w5 ⟨O, co, rfl, hown, hbel⟩))
    have hz := b3.size
    simp only [World.size_alloc] at hz
    have hbelow : Below w.heap.size w w5 := (b1.alloc b1.size _).trans ((b3.mono (by simp; exact Nat.le_succ_of_le b1.size)).trans ((((Below.refl w.heap.size w3).alloc (by have := b1.size; omega) _).alloc (by have := b1.size; simp; omega) _).drew.trans (hbel.mono (by have := b1.size; simp; omega))))
    have hown2 := hown.base_le (show w.heap.size ≤ _ by have := b1.size; simp; omega)
    clear hbel hown hS b1 b3
    go_wp2
    go_ret2
    rw [hF.out] at hown2
    refine .inl ⟨hlong, O, co, ?_, ?_, hbelow⟩
    · show Ending.returned (.tuple #[.slice O (cat [be4 p.length, be4 m2, p]).length co, .int .i64 0]) = _
      rw [hF.out, frame_len]
    · rw [frame_len] at hown2
      exact hown2
  · have hd : ¬ p.length ≤ 131072 := hlong
    go_enter Try.func21, Try.ntmps21
    go_wp2
    go_ret2
    exact .inr ⟨by omega, rfl, rfl⟩

end Go.Proofs.Ytbhjcfhpabnadaa
