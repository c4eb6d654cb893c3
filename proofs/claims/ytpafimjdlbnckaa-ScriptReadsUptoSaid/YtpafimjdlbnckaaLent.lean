/-
  The walks of lent and kept.
-/
import Derived.Test.YtpafimjdlbnckaaChecked
import Derived.Test.YtpafimjdlbnckaaRow
import Derived.Test.YtpafimjdlbnckaaSame
namespace Go.Proofs.Ytpafimjdlbnckaa
open Go.RowKit

theorem Try.el24 : Elem Try.prog 24 5 1 1 := Elem.of (z := .int .u8 0) Try.underlying24 (by kernel_rfl) rfl (by decide)

/-- What lent leaves: a row of its own, the bytes and two marks, of which the bytes are handed back. -/
def Lent (w : World) (xs : List UInt8) (e : Ending) (w' : World) : Prop :=
  ∃ g cap, e = .returned (.slice (some ⟨g, 0, none⟩) xs.length cap) ∧ xs.length + 2 ≤ cap ∧ Own w' w.heap.size 5 1 (some ⟨g, 0, none⟩) (xs.length + 2) cap (bv (xs ++ [201, 202])) ∧ Below w.heap.size w w'

theorem below_of_grown {w w' : World} {base : Nat} {A : Option Addr} {e size n c : Nat} {xs : List Value} {w0 : World} (hb : Below w0.heap.size w0 w) (hg : w.grownBy w' (blk A)) (hown : Own w base e size A n c xs) (h0 : w0.heap.size ≤ base) : Below w0.heap.size w0 w' :=
  hb.grown hg hb.size fun k hk => by have := hown.blk_ge hk; omega

theorem marks_rd (w : World) (B : Nat) (h : w.heap.size < B) : Rd (w.alloc (.cells #[.int .u8 201, .int .u8 202] 5)) B (some ⟨w.heap.size, 0, none⟩) (bv [201, 202]) := by
  intro j u hu
  refine ⟨_, rfl, h, ?_⟩
  match j, hu with
  | 0, hu => simp [bv] at hu; subst hu; simp [Addr.add]
  | 1, hu => simp [bv] at hu; subst hu; simp [Addr.add]

set_option maxHeartbeats 400000 in
theorem lent_any (xs : List UInt8) (A : Option Addr) (c B : Nat) (w : World) (hx : Rd w B A (bv xs)) (hB : B ≤ w.heap.size) (hn : xs.length + 2 ≤ 140737488355328) :
    Calls Try.prog 7 #[.slice A xs.length c] w (Lent w xs) := by
  obtain ⟨i0, z0, hi, hz, hs, hb, hzs⟩ := Try.el24.inf
  go_enter Try.func7, Try.ntmps7
  go_wp2_with (first
    | (at_make; refine wpList_make_own _ rfl _ _ 24 rfl w.heap.size 5 i0 z0 1 Try.underlying24 hi hz hs .i64 .i64 ((xs.length : Int) + 2) (xs.length + 2) rfl rfl (by omega) (by rw [hb]; omega) (by unfold maxLen; omega) (Nat.le_refl _) ?_; intro w1 hown1 hg1)
    | (at_builtin; refine wpList_app rfl (.tmp 8) (.tmp 9) 24 rfl w.heap.size 5 1 1 Try.el24 _ 0 (xs.length + 2) [] rfl hown1 B A xs.length c (bv xs) rfl (hx.same_ fun p hp => World.cell?_of_block (hg1.block p.block (by omega) (by simp))) (by simp [bv]) (bv_one xs) xs.length (bv xs) (by omega) rfl (by omega) (by unfold maxLen; omega) hg1.size ?_; intro A2 c2 w2 hown2 hg2 hat2)
    | (at_builtin; refine wpList_app rfl (.tmp 11) (.tmp 12) 24 rfl w.heap.size 5 1 1 Try.el24 A2 xs.length c2 _ rfl (hown2.alloc _) (w2.heap.size + 1) (some ⟨w2.heap.size, 0, none⟩) 2 2 (bv [201, 202]) rfl (marks_rd w2 _ (by omega)) rfl (bv_one _) (xs.length + 2) (bv (xs ++ [201, 202])) rfl (bv_append _ _).symm (by omega) (by unfold maxLen; omega) (by have := hg1.size; have := hg2.size; simp; omega) ?_; intro A3 c3 w3 hown3 hg3 hat3; obtain ⟨g3, rfl, hge3, hlt3, hle3⟩ := hown3.form_pos (by omega))
    | fail)
  go_ret
  refine ⟨g3, c3, rfl, hle3, hown3, ?_⟩
  have b1 : Below w.heap.size w w1 := (Below.refl _ _).grown hg1 (Nat.le_refl _) (by simp)
  have b2 : Below w.heap.size w w2 := b1.grown hg2 b1.size (by simp [blk])
  exact below_of_grown (b2.alloc b2.size _) hg3 (hown2.alloc _) (Nat.le_refl _)

set_option maxHeartbeats 400000 in
theorem kept_any (xs ys : List UInt8) (A : Option Addr) (g cap c base B : Nat) (w : World) (hown : Own w base 5 1 (some ⟨g, 0, none⟩) (xs.length + 2) cap (bv (xs ++ [201, 202])))
    (hy : Rd w B A (bv ys)) (hn : xs.length + 2 ≤ 140737488355328) :
    Calls Try.prog 11 #[.slice (some ⟨g, 0, none⟩) xs.length cap, .slice A ys.length c] w fun e w' => e = .returned (.bool (decide (xs = ys))) ∧ ∃ k, w' = w.drewN k := by
  have hx : Rd w w.heap.size (some ⟨g, 0, none⟩) (bv xs) := by
    have := hown.rd.take xs.length
    simpa [bv, List.take_append_of_le_length] using this
  have hcap : xs.length + 2 ≤ cap := by obtain ⟨_, _, _, _, h⟩ := hown.form_pos (by omega); exact h
  have m1 : w.cell? ⟨g, xs.length, none⟩ = some (.int .u8 201) := by
    obtain ⟨a, ha, _, hc⟩ := hown.rd xs.length (.int .u8 201) (by simp [bv])
    injection ha with ha
    subst ha
    simpa [Addr.add_lit] using hc
  have m2 : w.cell? ⟨g, xs.length + 1, none⟩ = some (.int .u8 202) := by
    obtain ⟨a, ha, _, hc⟩ := hown.rd (xs.length + 1) (.int .u8 202) (by simp [bv])
    injection ha with ha
    subst ha
    simpa [Addr.add_lit] using hc
  clear hown
  cases hd : decide (xs = ys)
  all_goals
    go_enter Try.func11, Try.ntmps11
    go_wp2_with (first | (go_at_call 13; refine (same_any xs ys _ _ _ _ _ _ _ hx hy (by omega)).mono ?_; rintro e w1 ⟨rfl, k, rfl⟩) | fail)
    go_ret
    exact ⟨rfl, k, rfl⟩

end Go.Proofs.Ytpafimjdlbnckaa
