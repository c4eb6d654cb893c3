/-
  The walks of turnpikelaw01's round and awake.
-/
import Derived.Test.YtbhjcfhpabnadaaSR
import Derived.Lib.SlBytesConst
namespace Go.Proofs.Ytbhjcfhpabnadaa
open Go.RowKit

set_option maxHeartbeats 400000 in
theorem round_any (a : Int) (n : Nat) (w : World) (hn : 0 < n) (hn2 : n ≤ 9223372036854775807) :
    Calls Try.prog 31 #[.int .i64 a, .int .i64 n] w fun e w' => (∃ k : Nat, k < n ∧ e = .returned (.int .i64 k)) ∧ w = w' := by
  have b1 : -(n : Int) < a.tmod n := by
    have := Int.lt_tmod_of_pos a (b := (n : Int)) (by omega)
    omega
  have b2 : a.tmod n < (n : Int) := Int.tmod_lt_of_pos a (by omega)
  obtain ⟨r, hr⟩ : ∃ r, r = a.tmod n := ⟨_, rfl⟩
  rw [← hr] at b1 b2
  have hn0 : (n : Int) ≠ 0 := by omega
  have hr2 := hr.symm
  have hwr : IntKind.i64.wrap r = r := IntWalk.i64_in _ (by omega)
  clear hr
  by_cases hneg : r < 0
  · go_enter Try.func31, Try.ntmps31
    go_wp2
    go_ret
    exact ⟨⟨(r + n).toNat, by omega, ret_int (by omega)⟩, rfl⟩
  · go_enter Try.func31, Try.ntmps31
    go_wp2
    go_ret
    exact ⟨⟨r.toNat, by omega, ret_int (by omega)⟩, rfl⟩

theorem own_cap {w : World} {base n c : Nat} {A : Option Addr} {l : List Value} (h : Own w base 5 1 A n c l) : n ≤ c := by
  rcases h.form with ⟨_, rfl, _⟩ | ⟨_, _, _, _, h⟩
  · omega
  · exact h

def fa : List UInt8 := [0, 0, 0, 1, 197, 125, 254, 35, 97]
theorem frO_a : frO [97] = fa := by decide +kernel
theorem next_fa : nextS (fa ++ [7]) = some [97] := by decide +kernel
theorem take_fa : (bv fa).take 4 = bv (fa.take 4) := by simp [bv, List.map_take]
theorem crc9 : more 0 [49, 50, 51, 52, 53, 54, 55, 56, 57] = 3808858755 := by decide +kernel

theorem frame_a {w : World} {A : Option Addr} {c B : Nat} (hx : Rd w B A (bv [97])) (hB : B ≤ w.heap.size) :
    Calls Try.prog 21 #[.slice A 1 c] w fun e w' => ∃ g c, e = .returned (.tuple #[.slice (some ⟨g, 0, none⟩) 9 c, .int .i64 0]) ∧ Own w' w.heap.size 5 1 (some ⟨g, 0, none⟩) 9 c (bv fa) ∧ 9 ≤ c ∧ Below w.heap.size w w' := by
  refine (frame_at [97] 1 rfl A c B w hx hB (by decide)).mono fun e w' ⟨A1, c1, he, ho, hb⟩ => ?_
  rw [frO_a] at he ho
  obtain ⟨g, rfl, _⟩ := own_some ho (by decide)
  exact ⟨g, c1, he, ho, own_cap ho, hb⟩
theorem next_a {w : World} {A : Option Addr} {c B : Nat} (hx : Rd w B A (bv (fa ++ [7]))) (hB : B ≤ w.heap.size) (hc : 10 ≤ c) :
    Calls Try.prog 18 #[.slice A 10 c] w fun e w' => ∃ A c, e = .returned (.tuple #[.slice A 1 c, .int .i64 9, .int .i64 0]) ∧ Own w' w.heap.size 5 1 A 1 c (bv [97]) ∧ Below w.heap.size w w' := by
  refine (pnext_at (fa ++ [7]) 10 rfl A c B w hx hB hc (by decide)).mono fun e w' ⟨A1, c1, he, ho, hb⟩ => ?_
  rw [next_fa] at he ho
  exact ⟨A1, c1, he, ho, hb⟩
theorem next_4 {w : World} {A : Option Addr} {c B : Nat} (hx : Rd w B A (bv (fa.take 4))) (hB : B ≤ w.heap.size) (hc : 4 ≤ c) :
    Calls Try.prog 18 #[.slice A 4 c] w fun e w' => e = .returned (.tuple #[.slice none 0 0, .int .i64 0, .int .i64 10]) ∧ Below w.heap.size w w' := by
  refine (pnext_any (fa.take 4) 4 rfl A c B w hx hB hc (by decide)).mono fun e w' ⟨hb, he⟩ => ?_
  rw [nextS_short (by decide)] at he
  exact ⟨he, hb⟩
theorem crc_9 {w : World} {A : Option Addr} {c B : Nat} (hx : Rd w B A (bv [49, 50, 51, 52, 53, 54, 55, 56, 57])) :
    Calls Try.prog 23 #[.slice A 9 c] w fun e w' => e = .returned (.int .u32 3808858755) ∧ w = w' := by
  have := crc_at [49, 50, 51, 52, 53, 54, 55, 56, 57] 9 rfl A c B w hx (by decide)
  rw [crc9] at this
  exact this
theorem crc_0 {w : World} : Calls Try.prog 23 #[.slice none 0 0] w fun e w' => e = .returned (.int .u32 0) ∧ w = w' :=
  crc_at [] 0 rfl none 0 w.heap.size w (Rd.nil_ _ _ _) (by decide)

theorem new_rdF (w : World) (cs : Array Value) (e : TypeId) (f : Nat × Nat) (B : Nat) (h : w.heap.size < B) : Rd (w.alloc (.cells cs e f)) B (some ⟨w.heap.size, 0, none⟩) cs.toList := by
  intro j u hu
  refine ⟨_, rfl, h, ?_⟩
  rw [Addr.add_lit, Nat.zero_add]
  have : (w.alloc (.cells cs e f)).heap[w.heap.size]? = some (.cells cs e f) := by
    show (w.heap.push (.cells cs e f))[w.heap.size]? = _
    simp
  unfold World.cell?
  rw [this]
  simpa using hu

def nine : List UInt8 := [49, 50, 51, 52, 53, 54, 55, 56, 57]
theorem bv_nine : bv nine = (#[.int .u8 49, .int .u8 50, .int .u8 51, .int .u8 52, .int .u8 53, .int .u8 54, .int .u8 55, .int .u8 56, .int .u8 57] : Array Value).toList := by simp [bv, nine]
theorem crc_nine (w : World) : Calls Try.prog 23 #[.slice (some ⟨w.heap.size, 0, none⟩) 9 9] (w.alloc (.cells #[.int .u8 49, .int .u8 50, .int .u8 51, .int .u8 52, .int .u8 53, .int .u8 54, .int .u8 55, .int .u8 56, .int .u8 57] 5 (9, 10))) fun e w' => e = .returned (.int .u32 3808858755) ∧ w.alloc (.cells #[.int .u8 49, .int .u8 50, .int .u8 51, .int .u8 52, .int .u8 53, .int .u8 54, .int .u8 55, .int .u8 56, .int .u8 57] 5 (9, 10)) = w' := by
  have h := new_rdF w #[.int .u8 49, .int .u8 50, .int .u8 51, .int .u8 52, .int .u8 53, .int .u8 54, .int .u8 55, .int .u8 56, .int .u8 57] 5 (9, 10) (w.heap.size + 1) (Nat.lt_succ_self _)
  rw [← bv_nine] at h
  exact crc_9 h

theorem conv_const (w : World) (C : Array Value) (n c : Nat) (f : Nat × Nat) (hf : f = (C.size, C.size + 1)) :
    (convert 22 22 (.slice (some ⟨w.heap.size, 0, none⟩) n c)).run Try.prog (w.alloc (.cells C 5)) = .ok (.slice (some ⟨w.heap.size, 0, none⟩) n c) (w.alloc (.cells C 5 f)) := by
  subst hf
  exact Lib.run_convert_bytes_const w 22 5 C n c Try.underlying22 Try.underlying5

set_option maxRecDepth 100000 in
set_option maxHeartbeats 800000 in
theorem awake_any (w : World) : Calls Try.prog 30 #[] w fun e w' => e = .returned (.bool true) ∧ Below w.heap.size w w' := by
  have tok1 : True := trivial
  have tok2 : True := trivial
  have cva := conv_const w #[.int .u8 97] 1 1 (1, 2) rfl
  go_enter Try.func30, Try.ntmps30
  go_wp2_with (first
    | (go_at_call 21; (refine (frame_a (B := w.heap.size + 1) (by exact new_rdF w #[.int .u8 97] 5 (1, 2) _ (Nat.lt_succ_self _)) (by simp)).mono ?_); rintro e w1 ⟨g1, c1, rfl, h1, hc1, b1⟩)
    | (at_builtin; have _t := tok1; refine wpList_app rfl (.tmp 16) (.tmp 17) 22 rfl w1.heap.size 5 1 1 Try.el22 _ 0 0 [] rfl (Own.made (Nat.le_refl _)) w1.heap.size _ 9 c1 (bv fa) rfl (by exact (h1.rd).alloc (Nat.le_refl _) _) rfl (bv_one _) 9 (bv fa) rfl rfl (by omega) (by unfold maxLen; omega) (by simp) ?_; intro A2 k2 w2 h2 hg2 at2; have d2 := below_own ((Below.refl w1.heap.size w1).alloc (Nat.le_refl _) _) hg2 (Own.made (size := 1) (Nat.le_refl _)) (by simp); clear tok1 _t)
    | (at_builtin; (refine wpList_app_new rfl (.tmp 18) (.tmp 19) 22 rfl w1.heap.size 5 1 1 Try.el22 A2 9 k2 (bv fa) rfl h2 #[.int .u8 7] w2.heap.size 1 _ rfl rfl rfl (bv_one [7]) 10 (bv (fa ++ [7])) rfl rfl (by omega) (by unfold maxLen; omega) d2.size ?_); intro A3 k3 w3 h3 hg3 at3; have d3 := below_own d2 hg3 h2 d2.size)
    | (go_at_call 18; have _t := tok2; refine (next_a h3.rd (Nat.le_refl _) (own_cap h3)).mono ?_; rintro e w4 ⟨A4, k4, rfl, h4, b4⟩; clear tok2 _t; have d4 := d3.trans (b4.mono d3.size); have r14 := (h1.below d4 (Nat.le_refl _)).rd.take 4; rw [take_fa] at r14)
    | (go_at_call 18; refine (next_4 r14 (Nat.le_refl _) (by omega)).mono ?_; rintro e w5 ⟨rfl, b5⟩; have h5 := h4.below b5 (Nat.le_refl _); have d5 := d4.trans (b5.mono d4.size); have cv := conv_any (w := w5.alloc (.cells #[.int .u8 49, .int .u8 50, .int .u8 51, .int .u8 52, .int .u8 53, .int .u8 54, .int .u8 55, .int .u8 56, .int .u8 57] 5 (9, 10))) (h5.alloc _).rd 1 rfl k4; have cvb := conv_const w5 #[.int .u8 49, .int .u8 50, .int .u8 51, .int .u8 52, .int .u8 53, .int .u8 54, .int .u8 55, .int .u8 56, .int .u8 57] 9 9 (9, 10) rfl)
    | (go_at_call 23; refine (crc_nine w5).mono ?_; rintro e w9 ⟨rfl, rfl⟩)
    | (go_at_call 23; refine crc_0.mono ?_; rintro e w9 ⟨rfl, rfl⟩)
    | fail)
  rotate_left
  · rename_i hstr
    exact absurd (str_list [97]) hstr
  go_ret
  have t1 : Below w.heap.size w w1 := ((Below.refl w.heap.size w).alloc (Nat.le_refl _) _).trans (b1.mono (by simp))
  have t2 : Below w.heap.size w w5 := t1.trans (d5.mono t1.size)
  exact ⟨rfl, t2.alloc t2.size _⟩

end Go.Proofs.Ytbhjcfhpabnadaa
