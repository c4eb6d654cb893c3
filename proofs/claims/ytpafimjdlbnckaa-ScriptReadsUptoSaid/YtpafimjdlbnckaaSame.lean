/-
  The walk of same: two slices of bytes are compared.
-/
import Derived.Test.YtpafimjdlbnckaaChecked
import Derived.Test.YtpafimjdlbnckaaWords
namespace Go.Proofs.Ytpafimjdlbnckaa
open Go.RowKit

/-- Equal so far. -/
def eqTo (xs ys : List UInt8) (k : Nat) : Prop := xs.take k = ys.take k

theorem eqTo_succ {xs ys : List UInt8} {k : Nat} (hx : k < xs.length) (hy : k < ys.length) (h : eqTo xs ys k) (e : xs[k] = ys[k]) : eqTo xs ys (k + 1) := by
  unfold eqTo at *
  rw [List.take_succ_eq_append_getElem hx, List.take_succ_eq_append_getElem hy, h, e]

theorem eqTo_all {xs ys : List UInt8} (hl : xs.length = ys.length) (h : eqTo xs ys xs.length) : xs = ys := by
  unfold eqTo at h
  rw [List.take_length] at h
  rw [h, hl, List.take_length]

theorem neq_at {xs ys : List UInt8} {k : Nat} (hx : k < xs.length) (hy : k < ys.length) (e : ¬ xs[k] = ys[k]) : ¬ xs = ys := by
  rintro rfl
  exact e rfl

theorem u8_ne {a b : UInt8} (h : ¬ a = b) : ((a.toNat : Int) != (b.toNat : Int)) = true := by
  rw [bne_iff_ne]
  intro e
  exact h (UInt8.toNat.inj (by omega))

theorem u8_eq {a b : UInt8} (h : a = b) : ((a.toNat : Int) != (b.toNat : Int)) = false := by
  subst h
  simp

set_option maxHeartbeats 400000 in
theorem same_any (xs ys : List UInt8) (A A' : Option Addr) (c c' B B' : Nat) (w : World) (hx : Rd w B A (bv xs)) (hy : Rd w B' A' (bv ys))
    (hxl : xs.length ≤ 9223372036854775807) :
    Calls Try.prog 13 #[.slice A xs.length c, .slice A' ys.length c'] w fun e w' => e = .returned (.bool (decide (xs = ys))) ∧ ∃ k, w' = w.drewN k := by
  by_cases hl : xs.length = ys.length
  · have hne : ((xs.length : Int) != (ys.length : Int)) = false := by simp [hl]
    have HL := Lib.hid hl
    clear hl
    go_enter Try.func13, Try.ntmps13
    go_wp2
    go_loopw [5] (fun i wr => ∃ k : Nat, k ≤ xs.length ∧ i = .int .i64 k ∧ Hid (eqTo xs ys k) ∧ ∃ m, wr = w.drewN m) (fun i _ => xs.length - (intOf i).toNat)
    case atStart => exact ⟨0, Nat.zero_le _, rfl, by simp [Hid, eqTo], 0, rfl⟩
    case round =>
      obtain ⟨k, hk, rfl, he, m, rfl⟩ := hrel
      by_cases hlt : k < xs.length
      · have hlt' : k < ys.length := by have := HL.out; omega
        obtain ⟨a, rfl, _, hc⟩ := hx.byte hlt
        obtain ⟨a', rfl, _, hc'⟩ := hy.byte hlt'
        by_cases hb : xs[k] = ys[k]
        · have hb' := u8_eq hb
          have HB := Lib.hid hb
          clear hb
          go_wp2
          go_quiet (fail)
          go_wp2
          go_roundw
          case rel => exact ⟨k + 1, by omega, by go_num, eqTo_succ hlt hlt' he HB.out, m + nq, rfl⟩
          case measure => simp [intOf]; omega
        · have hb' := u8_ne hb
          have HB := Lib.hid (neq_at hlt hlt' hb)
          clear hb
          go_wp2
          go_quiet (fail)
          go_wp2
          go_ret
          exact ⟨by simp [HB.out], m + nq, World.drewN_drewN _ _ _⟩
      · obtain rfl : k = xs.length := by omega
        have HX := Lib.hid (eqTo_all HL.out he)
        go_wp2
        go_ret
        exact ⟨by simp [HX.out], m, rfl⟩
  · have hne : ((xs.length : Int) != (ys.length : Int)) = true := by rw [bne_iff_ne]; omega
    have HL := Lib.hid (show ¬ xs = ys from fun e => hl (by rw [e]))
    clear hl
    go_enter Try.func13, Try.ntmps13
    go_wp2
    go_ret
    exact ⟨by simp [HL.out], 0, rfl⟩

end Go.Proofs.Ytpafimjdlbnckaa
