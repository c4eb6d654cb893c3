/-
  The walks of slices.Grow at nil, of slices.Concat.
-/
import Derived.Test.YtbhjcfhpabnadaaRFrame
import Derived.Lib.AppendZerosOnto
import Derived.Lib.SliceRun
import Derived.Lib.Walk
namespace Go.Proofs.Ytbhjcfhpabnadaa
open Go.RowKit

/-- Room for n bytes in new memory, none of them used. -/
def GrowOut (w : World) (n : Nat) (e : Ending) (w' : World) : Prop :=
  ∃ g c, e = .returned (.slice (some ⟨g, 0, none⟩) 0 c) ∧ n ≤ c ∧ Own w' w.heap.size 5 1 (some ⟨g, 0, none⟩) 0 c [] ∧ Below w.heap.size w w'

theorem grow_own (w : World) (n G : Nat) (hn : n ≤ G) (hG : G ≤ maxLen) :
    Own (w.alloc (.cells (Builtin.zeroCells #[.int .u8 0] n ++ Builtin.zeroCells #[.int .u8 0] (G - n)) 5)).drew w.heap.size 5 1 (some ⟨w.heap.size, 0, none⟩) 0 G [] :=
  ⟨by simp, .inr ⟨w.heap.size, G, _, rfl, Nat.le_refl _, heap_alloc_new w _, Nat.zero_le _, hG, by simp [size_zeroCells]; omega, by simp⟩⟩

set_option maxRecDepth 100000 in
set_option maxHeartbeats 800000 in
theorem grow_any (n : Nat) (w : World) (h0 : 0 < n) (hn : n ≤ 140737488355328) : Calls Try.prog 65 #[.slice none 0 0, .int .i64 n] w (GrowOut w n) := by
  obtain ⟨i0, z0, hi, hz, hs, hb, hzs⟩ := Try.el22.inf
  have hz0 : z0 = .int .u8 0 := by
    have h : (Try.prog.info? 5).map (fun i => i.zero) = some (some (.int .u8 0)) := by kernel_rfl
    rw [hi] at h
    simp only [Option.map_some, Option.some.injEq] at h
    rw [hz] at h
    injection h
  subst hz0
  have hrz : ∀ ty, (Builtin.append_ #[22, 3] ty #[.slice none 0 0, .int .i64 (n : Int)]).run Try.prog w =
      .ok (.slice (some ⟨w.heap.size, 0, none⟩) n (grownCap w n 0 5)) (w.drew.alloc (.cells ((#[] : Array Value) ++ Builtin.zeroCells #[.int .u8 0] n ++ Builtin.zeroCells #[.int .u8 0] (grownCap w n 0 5 - n)) 5)) := fun ty => by
    have h := Lib.run_append_grow_zeros w 22 3 ty 5 i0 (.int .u8 0) .i64 .i64 Try.underlying22 Try.underlying3 hi hz none 0 0 [] (run_firstCells_none w.drew i0.size 0 0 0) n h0 (by omega) (by omega) (by omega)
      (by rw [hb]; omega) (by rw [hb]; exact growslice_fits (by omega) (by omega))
    rw [Nat.zero_add] at h
    exact h
  have hGn : n ≤ grownCap w n 0 5 := grownCap_ge w _ _ _
  have hG63 := grownCap_le_maxLen w n 0 5 (by unfold maxLen; omega)
  have hgo := grow_own w n (grownCap w n 0 5) hGn hG63
  obtain ⟨G, hG⟩ : ∃ G, G = grownCap w n 0 5 := ⟨_, rfl⟩
  rw [← hG] at hrz hGn hG63 hgo
  have HG := Lib.hid hgo
  clear hG hgo
  unfold maxLen at hG63
  have hpos : (n : Int) > 0 := by omega
  go_enter Try.func65, Try.ntmps65
  go_wp2_with (first | (at_builtin; refine Lib.wpList_append_run _ rfl _ _ _ _ rfl _ _ rfl rfl _ _ (hrz _) ?_) | fail)
  all_goals go_ret
  all_goals exact ⟨_, _, rfl, hGn, HG.out, ((Below.refl _ _).alloc (Nat.le_refl _) _).drew⟩

/-- A list of lists of bytes in memory. -/
def SlAt (w : World) (B : Nat) (A : Option Addr) (l : List (List UInt8)) : Prop :=
  ∀ k (h : k < l.length), ∃ b o S c, A = some ⟨b, o, none⟩ ∧ b < B ∧ w.cell? ⟨b, o + k, none⟩ = some (.slice S l[k].length c) ∧ Rd w B S (bv l[k])

def cat (l : List (List UInt8)) : List UInt8 := l.flatten
theorem cat_take_succ {l : List (List UInt8)} {k : Nat} (h : k < l.length) : cat (l.take (k + 1)) = cat (l.take k) ++ l[k] := by
  unfold cat
  rw [List.take_succ_eq_append_getElem h, List.flatten_append, List.flatten_singleton]
theorem cat_take_le (l : List (List UInt8)) (k : Nat) : (cat (l.take k)).length ≤ (cat l).length := by
  have h : cat l = cat (l.take k) ++ cat (l.drop k) := by
    unfold cat
    rw [← List.flatten_append, List.take_append_drop]
  rw [h, List.length_append]
  exact Nat.le_add_right _ _

def CatOut (w : World) (xs : List UInt8) (e : Ending) (w' : World) : Prop :=
  ∃ A c, e = .returned (.slice A xs.length c) ∧ Own w' w.heap.size 5 1 A xs.length c (bv xs) ∧ Below w.heap.size w w'

set_option maxRecDepth 100000 in
set_option maxHeartbeats 800000 in
theorem concat_any (l : List (List UInt8)) (n : Nat) (hnl : n = l.length) (A : Option Addr) (c B : Nat) (w : World) (hx : SlAt w B A l) (hB : B ≤ w.heap.size) (hl : l.length ≤ 140737488355328) (h0 : 0 < (cat l).length) (hn : (cat l).length ≤ 140737488355328) :
    Calls Try.prog 55 #[.slice A n c] w (CatOut w (cat l)) := by
  subst hnl
  have HN := Lib.hid (show (cat l).length = (cat l).length from rfl)
  go_enter Try.func55, Try.ntmps55
  go_wp2
  go_loop [3, 11] (fun s i => ∃ k N : Nat, k ≤ l.length ∧ i = .int .i64 k ∧ s = .int .i64 N ∧ N ≤ (cat l).length ∧ Hid (N = (cat (l.take k)).length)) (fun _ i => l.length - (intOf i).toNat)
  case atStart => exact ⟨0, 0, Nat.zero_le _, rfl, rfl, Nat.zero_le _, by simp [Hid, cat]⟩
  case round =>
    obtain ⟨k, N, hk, rfl, rfl, hNl, hN⟩ := hrel
    by_cases hlt : k < l.length
    · obtain ⟨b, o, S, d, rfl, hb, hcell, hr⟩ := hx k hlt
      have hs := cat_take_le l (k + 1)
      rw [cat_take_succ hlt, List.length_append, ← hN.out] at hs
      have HK := Lib.hid (show N + l[k].length = (cat (l.take (k + 1))).length by rw [cat_take_succ hlt, List.length_append, ← hN.out])
      go_wp2
      go_round
      case rel => exact ⟨k + 1, N + l[k].length, by omega, by go_num, by go_num, hs, HK.out⟩
      case measure => simp [intOf]; omega
    · obtain rfl : k = l.length := by omega
      have hN' := hN.out
      rw [List.take_length] at hN'
      subst hN'
      clear hN
      go_wp2_with (first
        | (go_at_call 65; refine (grow_any (cat l).length _ h0 hn).mono ?_; rintro e w1 ⟨g, cg, rfl, hcg, hown, hbel⟩)
        | fail)
      go_loopw [6, 27] (fun s i wr => ∃ (k : Nat) (O : Option Addr) (co N : Nat), k ≤ l.length ∧ i = .int .i64 k ∧ s = .slice O N co ∧ N ≤ (cat l).length ∧ Hid (N = (cat (l.take k)).length) ∧ Own wr w.heap.size 5 1 O N co (bv (cat (l.take k))) ∧ Below w.heap.size w wr) (fun _ i _ => l.length - (intOf i).toNat)
      case atStart => exact ⟨0, _, _, 0, Nat.zero_le _, rfl, rfl, Nat.zero_le _, by simp [Hid, cat], hown, hbel⟩
      case round =>
        obtain ⟨k, O, co, N, hk, rfl, rfl, hNl, hN, hown2, hbel2⟩ := hrel
        clear hown hbel
        by_cases hlt : k < l.length
        · obtain ⟨b, o, S, d, rfl, hb, hcell, hr⟩ := hx k hlt
          have hs := cat_take_le l (k + 1)
          rw [cat_take_succ hlt, List.length_append, ← hN.out] at hs
          have HK := Lib.hid (show N + l[k].length = (cat (l.take (k + 1))).length by rw [cat_take_succ hlt, List.length_append, ← hN.out])
          have HZ := Lib.hid (show bv (cat (l.take k)) ++ bv l[k] = bv (cat (l.take (k + 1))) by rw [cat_take_succ hlt, bv_append])
          replace hcell := (hbel2.cell (p := ⟨b, o + k, none⟩) (by exact Nat.lt_of_lt_of_le hb hB)).trans hcell
          go_wp2_with (first
            | (at_builtin; refine wpList_app rfl (.tmp 31) (.tmp 32) 22 rfl w.heap.size 5 1 1 Try.el22 O N co _ rfl hown2 B S l[k].length d (bv l[k]) rfl (hr.below (hbel2.mono hB)) (by simp [bv]) (bv_one _) (N + l[k].length) _ rfl HZ.out (by omega) (by unfold maxLen; omega) hbel2.size ?_; intro O3 co3 w3 hown3 hg3 hat3; have b3 := below_own hbel2 hg3 hown2 hbel2.size)
            | fail)
          go_roundw
          case rel => exact ⟨k + 1, O3, co3, N + l[k].length, by omega, by go_num, rfl, hs, HK.out, hown3, b3⟩
          case measure => simp [intOf]; omega
        · obtain rfl : k = l.length := by omega
          have hN' := hN.out
          rw [List.take_length] at hN' hown2
          subst hN'
          go_wp2
          go_ret
          exact ⟨O, co, rfl, hown2, hbel2⟩

end Go.Proofs.Ytbhjcfhpabnadaa
