/-
  The walks of turnpikeref01's Four and Frame.
-/
import Derived.Test.YtbhjcfhpabnadaaRef
namespace Go.Proofs.Ytbhjcfhpabnadaa
open Go.RowKit

/-- A number in four bytes. -/
def be4 (n : Nat) : List UInt8 := [UInt8.ofNat (n / 16777216), UInt8.ofNat (n / 65536 % 256), UInt8.ofNat (n / 256 % 256), UInt8.ofNat (n % 256)]
theorem be4_len (n : Nat) : (be4 n).length = 4 := rfl
/-- The frame of a payload. -/
def frame (p : List UInt8) : List UInt8 := be4 p.length ++ be4 (more 0 (be4 p.length ++ p)) ++ p
theorem frame_len (p : List UInt8) : (frame p).length = 8 + p.length := by
  unfold frame
  rw [List.length_append, List.length_append, be4_len, be4_len]

theorem ofNat_val {z : Nat} (h : z < 256) : ((UInt8.ofNat z).toNat : Int) = (z : Int) := by
  rw [UInt8.toNat_ofNat_of_lt' (by simp [UInt8.size]; omega)]

theorem be4_bv {n : Nat} (h : n < 4294967296) : bv (be4 n) = [.int .u8 ((n : Int) / 16777216), .int .u8 ((n : Int) / 65536 % 256), .int .u8 ((n : Int) / 256 % 256), .int .u8 ((n : Int) % 256)] := by
  simp only [be4, bv, List.map_cons, List.map_nil]
  rw [ofNat_val (by omega), ofNat_val (by omega), ofNat_val (by omega), ofNat_val (by omega)]
  simp

/-- A row that has been laid by a literal. -/
theorem Own.lit {w : World} {base e size n : Nat} {cs : Array Value} (h : base ≤ w.heap.size) (hn : cs.size = n * size) (hm : n ≤ maxLen) : Own (w.alloc (.cells cs e)) base e size (some ⟨w.heap.size, 0, none⟩) n n cs.toList :=
  ⟨by simpa using hn, .inr ⟨w.heap.size, n, cs, rfl, h, heap_alloc_new w _, Nat.le_refl _, hm, hn, by rw [List.take_of_length_le (by simp [hn])]⟩⟩

/-- Four bytes in new memory. -/
def FourOut (w : World) (n : Nat) (e : Ending) (w' : World) : Prop :=
  ∃ g, e = .returned (.slice (some ⟨g, 0, none⟩) 4 4) ∧ Own w' w.heap.size 5 1 (some ⟨g, 0, none⟩) 4 4 (bv (be4 n)) ∧ Below w.heap.size w w'

set_option maxHeartbeats 400000 in
theorem four_any (n : Nat) (w : World) (hn : n < 4294967296) : Calls Try.prog 56 #[.int .u32 n] w (FourOut w n) := by
  go_enter Try.func56, Try.ntmps56
  go_wp2
  go_ret
  refine ⟨w.heap.size, rfl, ?_, (Below.refl _ _).alloc (Nat.le_refl _) _⟩
  rw [be4_bv hn]
  exact Own.lit (Nat.le_refl _) rfl (by unfold maxLen; omega)

theorem sum_at (c : Nat) (xs : List UInt8) (n : Nat) (hn : n = xs.length) (A : Option Addr) (k B : Nat) (w : World) (hx : Rd w B A (bv xs)) (hB : B ≤ w.heap.size) (hc : c < 4294967296) (hl : 8 * n ≤ 140737488355328) :
    Calls Try.prog 24 #[.int .u32 c, .slice A n k] w fun e w' => e = .returned (.int .u32 (more c xs : Nat)) ∧ Below w.heap.size w w' := by
  subst hn
  exact sum_any c xs A k B w hx hB hc hl

/-- What Frame leaves. -/
def FrameOut (w : World) (p : List UInt8) (e : Ending) (w' : World) : Prop :=
  (p.length ≤ 131072 ∧ ∃ A c, e = .returned (.tuple #[.slice A (8 + p.length) c, .int .i64 0]) ∧ Own w' w.heap.size 5 1 A (8 + p.length) c (bv (frame p)) ∧ Below w.heap.size w w') ∨
  (131072 < p.length ∧ e = .returned (.tuple #[.slice none 0 0, .int .i64 3]) ∧ w = w')

set_option maxRecDepth 100000 in
set_option maxHeartbeats 800000 in
theorem rframe_any (p : List UInt8) (A : Option Addr) (k B : Nat) (w : World) (hx : Rd w B A (bv p)) (hB : B ≤ w.heap.size) (hl : p.length ≤ 9223372036854775807) :
    Calls Try.prog 22 #[.slice A p.length k] w (FrameOut w p) := by
  by_cases hlong : p.length ≤ 131072
  · have tok1 : True := trivial
    go_enter Try.func22, Try.ntmps22
    go_wp2_with (first
      | (go_at_call 56; have _t := tok1; refine (four_any p.length _ (by omega)).mono ?_; rintro e w1 ⟨g, rfl, hg, b1⟩; clear tok1 _t)
      | (at_builtin; refine wpList_app rfl (.tmp 14) (.tmp 15) 22 rfl w1.heap.size 5 1 1 Try.el22 none 0 0 [] rfl (Own.nil_ _ _ _ _) _ _ 4 4 _ rfl hg.rd rfl (bv_one _) 4 _ rfl rfl (by omega) (by unfold maxLen; omega) (Nat.le_refl _) ?_; intro A2 c2 w2 h2 hg2 at2; have d2 := below_own (Below.refl w1.heap.size w1) hg2 (Own.nil_ w1 w1.heap.size 5 1) (Nat.le_refl _))
      | (at_builtin; refine wpList_app rfl (.tmp 16) (.tmp 17) 22 rfl w1.heap.size 5 1 1 Try.el22 A2 4 c2 _ rfl h2 B A p.length k (bv p) rfl (hx.below ((b1.mono hB).trans (d2.mono (Nat.le_trans hB b1.size)))) (by simp [bv]) (bv_one _) (4 + p.length) _ rfl rfl (by omega) (by unfold maxLen; omega) d2.size ?_; intro A3 c3 w3 h3 hg3 at3; have d3 := below_own d2 hg3 h2 d2.size)
      | (at_builtin; refine wpList_app rfl (.tmp 19) (.tmp 20) 22 rfl w3.heap.size 5 1 1 Try.el22 none 0 0 [] rfl (Own.nil_ _ _ _ _) _ _ 4 4 _ rfl (hg.below d3 (Nat.le_refl _)).rd rfl (bv_one _) 4 _ rfl rfl (by omega) (by unfold maxLen; omega) (Nat.le_refl _) ?_; intro A4 c4 w4 h4 hg4 at4; have d4 := below_own (Below.refl w3.heap.size w3) hg4 (Own.nil_ w3 w3.heap.size 5 1) (Nat.le_refl _))
      | (go_at_call 24; refine (sum_at 0 (be4 p.length ++ p) (4 + p.length) (by rw [List.length_append, be4_len]) A3 c3 w4.heap.size w4 (by rw [bv_append]; exact (h3.below d4 (Nat.le_refl _)).rd) (Nat.le_refl _) (by omega) (by omega)).mono ?_; rintro e w5 ⟨rfl, b5⟩)
      | (go_at_call 56; refine (four_any (more 0 (be4 p.length ++ p)) _ (more_lt _ (by omega))).mono ?_; rintro e w6 ⟨g6, rfl, h6, b6⟩; have d6 := d4.trans ((b5.trans (b6.mono b5.size)).mono d4.size); have h46 := (h4.below b5 (Nat.le_refl _)).below b6 (Nat.le_refl _))
      | (at_builtin; refine wpList_app rfl (.tmp 21) (.tmp 24) 22 rfl w3.heap.size 5 1 1 Try.el22 A4 4 c4 _ rfl h46 _ _ 4 4 _ rfl h6.rd rfl (bv_one _) 8 _ rfl rfl (by omega) (by unfold maxLen; omega) d6.size ?_; intro A7 c7 w7 h7 hg7 at7; have d7 := below_own d6 hg7 h46 d6.size)
      | (at_builtin; refine wpList_app rfl (.tmp 26) (.tmp 27) 22 rfl w3.heap.size 5 1 1 Try.el22 A7 8 c7 _ rfl h7 B A p.length k (bv p) rfl (hx.below ((b1.mono hB).trans ((d3.mono (Nat.le_trans hB b1.size)).trans (d7.mono (Nat.le_trans hB (Nat.le_trans b1.size d3.size)))))) (by simp [bv]) (bv_one _) (8 + p.length) _ rfl rfl (by omega) (by unfold maxLen; omega) d7.size ?_; intro A8 c8 w8 h8 hg8 at8; have d8 := below_own d7 hg8 h7 d7.size)
      | fail)
    go_ret2
    refine .inl ⟨hlong, A8, c8, rfl, ?_, ?_⟩
    · have h9 := h8.base_le (Nat.le_trans b1.size d3.size)
      unfold frame
      rw [bv_append, bv_append]
      exact h9
    · exact b1.trans ((d3.mono b1.size).trans (d8.mono (Nat.le_trans b1.size d3.size)))
  · have hd : ¬ p.length ≤ 131072 := hlong
    go_enter Try.func22, Try.ntmps22
    go_wp2
    go_ret2
    exact .inr ⟨by omega, rfl, rfl⟩

end Go.Proofs.Ytbhjcfhpabnadaa
