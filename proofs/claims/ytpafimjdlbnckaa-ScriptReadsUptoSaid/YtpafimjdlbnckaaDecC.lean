/-
  What Decode leaves, said of memory; the walks of awake and both.
-/
import Derived.Test.YtpafimjdlbnckaaDecW
import Derived.Test.YtpafimjdlbnckaaGrp
import Derived.Test.YtpafimjdlbnckaaEnc
import Derived.Test.YtpafimjdlbnckaaSame
import Derived.StillTailTactics
namespace Go.Proofs.Ytpafimjdlbnckaa
open Go.RowKit

theorem own_cap {w : World} {base n c : Nat} {A : Option Addr} {l : List Value} (h : Go.Proofs.Ytpafimjdlbnckaa.Own w base 5 1 A n c l) : (A = none → c = 0) ∧ n ≤ c := by
  rcases h.form with ⟨_, rfl, rfl⟩ | ⟨_, rfl, _, _, h⟩
  · exact ⟨fun _ => rfl, Nat.le_refl _⟩
  · exact ⟨(fun h => by cases h), h⟩

theorem dec_out_st {w : World} {b : List UInt8} {w' : World} {O : Option Addr} {c : Nat} {els : List El} (ho : Go.Proofs.Ytpafimjdlbnckaa.Own w' w.heap.size 26 4 O els.length c (flatC els)) (hS : AllS b els) (hd : Dat w' w.heap.size els) :
    els.length = (steps b).length ∧ StAt w' w'.heap.size 4 O (steps b) := by
  have hs : steps b = els.map (·.s) := by
    unfold steps
    rw [← hS, List.map_map]
    rfl
  refine ⟨by rw [hs, List.length_map], fun k hk => ?_⟩
  have hk' : k < els.length := by rw [hs, List.length_map] at hk; exact hk
  have hg : (steps b)[k] = els[k].s := by simp [hs]
  obtain ⟨g, rfl, _, hlt, _⟩ := ho.form_pos (by omega)
  have hgr := flatC_at els k hk'
  refine ⟨g, 0, els[k].A, els[k].c, rfl, hlt, ?_, ?_, ?_, ?_, ?_⟩
  · rw [hg]; simpa [El.cs] using ho.grp hgr 0 _ rfl
  · rw [hg]; simpa [El.cs] using ho.grp hgr 1 _ rfl
  · rw [hg]; simpa [El.cs] using ho.grp hgr 2 _ rfl
  · rw [hg]; simpa [El.cs] using ho.grp hgr 3 _ rfl
  · rw [hg]; exact (hd els[k] (List.getElem_mem hk')).rd

/-- Decode, said of memory. -/
theorem dec_at (b : List UInt8) (n : Nat) (hn : n = b.length) (A : Option Addr) (c : Nat) (hA : A = none → c = 0) (hc : n ≤ c) (hl : n ≤ 16777216) (w : World) (hr : Rd w w.heap.size A (bv b)) :
    Calls Try.prog 15 #[.slice A n c] w fun e w' => ∃ O c', e = .returned (.slice O (List.length (α := St) (steps b)) c') ∧ StAt w' w'.heap.size 4 O (steps b) ∧ Below w.heap.size w w' := by
  refine (dec_any b n hn A c hA hc hl w hr).mono ?_
  rintro e w' ⟨O, c', els, rfl, ho, hS, hd, hb⟩
  obtain ⟨h1, h2⟩ := dec_out_st ho hS hd
  exact ⟨O, c', by rw [h1], h2, hb⟩

theorem steps_len (b : List UInt8) : (steps b).length ≤ b.length := by
  unfold steps
  rw [List.length_map]
  exact decR_len _ 0 b (Nat.le_refl _)

theorem encL_cons (s : St) (l : List St) : encL (s :: l) = encS s ++ encL l := by simp [encL]
theorem steps_bulk : ∀ (f : Nat) (b : List UInt8), b.length ≤ f → (encL (steps b)).length ≤ b.length + 5 := by
  intro f
  induction f with
  | zero =>
    intro b h
    obtain rfl : b = [] := List.eq_nil_of_length_eq_zero (by omega)
    simp [steps_nil, encL]
  | succ f ih =>
    intro b h
    by_cases hb : b = []
    · subst hb; simp [steps_nil, encL]
    · rw [steps_cons hb, encL_cons, List.length_append]
      have h0 : 0 < b.length := List.length_pos_iff.2 hb
      have hu := used_pos b
      have hd : (b.drop (used b)).length = b.length - used b := by simp
      have h1 := ih (b.drop (used b)) (by omega)
      have h2 : (encS (stepL b)).length ≤ used b ∧ (encS (stepL b)).length ≤ b.length + 5 := by
        cases hc : carB (opN b)
        · rw [encS_len_not (show carB (stepL b).op = false from hc)]
          unfold used
          rw [hc]
          simp
        · rw [encS_len_car (show carB (stepL b).op = true from hc)]
          unfold used stepL
          rw [hc]
          simp only [if_true, List.length_take, List.length_drop]
          omega
      by_cases hlt : used b ≤ b.length
      · omega
      · have : b.drop (used b) = [] := List.drop_of_length_le (by omega)
        rw [this]
        simp only [steps_nil, encL, List.flatMap_nil, List.length_nil]
        omega

theorem all_ok (b : List UInt8) : ∀ s ∈ steps b, okS s := steps_ok _ b (Nat.le_refl _)
theorem steps_back (b : List UInt8) : steps (encL (steps b)) = steps b := by
  have := steps_enc (steps b) [] (all_ok b)
  simpa [steps_nil] using this

/-- Encode of steps that may be. -/
theorem enc_good (l : List St) (m : Nat) (hm : m = l.length) (A : Option Addr) (c B : Nat) (w : World) (hst : StAt w B 4 A l) (hB : B ≤ w.heap.size) (hl : m ≤ 140737488355328) (hn : (encL l).length ≤ 140737488355328) (hok : ∀ s ∈ l, okS s) :
    Calls Try.prog 8 #[.slice A m c] w fun e w' => ∃ A' c', e = .returned (.tuple #[.slice A' (List.length (α := UInt8) (encL l)) c', .int .i64 0]) ∧ Go.Proofs.Ytpafimjdlbnckaa.Own w' w.heap.size 5 1 A' (encL l).length c' (bv (encL l)) ∧ Below w.heap.size w w' := by
  subst hm
  refine (enc_any l A c B w hst hB hl hn).mono ?_
  rintro e w' ⟨hb, ⟨_, A', N, c', rfl, rfl, ho⟩ | ⟨⟨s, hs, hno⟩, _⟩⟩
  · exact ⟨A', c', rfl, ho, hb⟩
  · exact absurd (hok s hs) hno

set_option maxHeartbeats 400000 in
theorem both_eq (op a b : Int) (xs : List UInt8) (n : Nat) (hn : n = xs.length) (D D' : Option Addr) (c c' B B' : Nat) (w : World) (hx : Rd w B D (bv xs)) (hy : Rd w B' D' (bv xs)) (hB : B ≤ w.heap.size) (hB' : B' ≤ w.heap.size)
    (hxl : n ≤ 9223372036854775807) :
    Calls Try.prog 22 #[.agg #[.int .i64 op, .int .i64 a, .int .i64 b, .slice D n c], .agg #[.int .i64 op, .int .i64 a, .int .i64 b, .slice D' n c']] w
      fun e w' => e = .returned (.bool true) ∧ Below w.heap.size w w' := by
  subst hn
  have hd : decide (xs = xs) = true := by simp
  go_enter Try.func22, Try.ntmps22
  go_wp2_with (first | (go_at_call 13; refine (same_any xs xs _ _ _ _ B B' _ ?_ ?_ hxl).mono ?_; exact ((hx.alloc hB _).alloc (by simp; omega) _); exact ((hy.alloc hB' _).alloc (by simp; omega) _); rintro e w1 ⟨rfl, k, rfl⟩) | fail)
  go_ret
  exact ⟨by simp, below_drewN (((Below.refl _ _).alloc (Nat.le_refl _) _).alloc (by simp) _) _⟩

def lit9 : List UInt8 := [1, 5, 0, 3, 7, 1, 1, 0, 97]
theorem steps_lit : steps lit9 = [⟨1, 5, 0, []⟩, ⟨3, 7, 1, [97]⟩] := by
  rw [show lit9 = encL [⟨1, 5, 0, []⟩, ⟨3, 7, 1, [97]⟩] ++ [] by decide +kernel, steps_enc]
  · rfl
  · intro s hs
    simp only [List.mem_cons, List.not_mem_nil, or_false] at hs
    rcases hs with rfl | rfl
    · exact ⟨by decide, by decide, by decide, by decide, by decide, by decide, by decide, by decide⟩
    · exact ⟨by decide, by decide, by decide, by decide, by decide, by decide, by decide, by decide⟩
theorem bv_lit : bv lit9 = (#[.int .u8 1, .int .u8 5, .int .u8 0, .int .u8 3, .int .u8 7, .int .u8 1, .int .u8 1, .int .u8 0, .int .u8 97] : Array Value).toList := by simp [bv, lit9]

theorem below_of_alloc {w w' : World} {o : Obj} (h : Below (w.alloc o).heap.size (w.alloc o) w') : Below w.heap.size w w' :=
  ((Below.refl _ w).alloc (Nat.le_refl _) o).trans (h.mono (by simp))

/-- Decode of the nine bytes that awake gives it. -/
theorem dec_lit (w : World) : Calls Try.prog 15 #[.slice (some ⟨w.heap.size, 0, none⟩) 9 9] (w.alloc (.cells #[.int .u8 1, .int .u8 5, .int .u8 0, .int .u8 3, .int .u8 7, .int .u8 1, .int .u8 1, .int .u8 0, .int .u8 97] 5))
    fun e w' => ∃ g c D d, e = .returned (.slice (some ⟨g, 0, none⟩) 2 c) ∧ w'.cell? ⟨g, 0, none⟩ = some (.int .i64 1) ∧ w'.cell? ⟨g, 1, none⟩ = some (.int .i64 5) ∧ w'.cell? ⟨g, 4, none⟩ = some (.int .i64 3) ∧ w'.cell? ⟨g, 7, none⟩ = some (.slice (some D) 1 d) ∧ w'.cell? D = some (.int .u8 97) ∧ Below w.heap.size w w' := by
  have hr := new_rd w #[.int .u8 1, .int .u8 5, .int .u8 0, .int .u8 3, .int .u8 7, .int .u8 1, .int .u8 1, .int .u8 0, .int .u8 97] 5 (w.heap.size + 1) (Nat.lt_succ_self _)
  rw [← bv_lit] at hr
  refine (dec_any lit9 9 rfl _ 9 (fun h => by cases h) (Nat.le_refl _) (by decide) _ (by simpa using hr)).mono ?_
  rintro e w' ⟨O, c, els, rfl, ho, hS, hd, hb⟩
  obtain ⟨h1, h2⟩ := dec_out_st ho hS hd
  rw [steps_lit] at h1 h2
  have h1' : els.length = 2 := h1
  obtain ⟨g, rfl, _, _, _⟩ := ho.form_pos (by omega)
  obtain ⟨b, o, D, d, e0, _, a0, a1, _⟩ := h2 0 (by decide)
  obtain ⟨b', o', D', d', e0', _, c0, _, _, c3, cr⟩ := h2 1 (by decide)
  injection e0 with e0
  injection e0 with e1 e2
  injection e0' with e0'
  injection e0' with e1' e2'
  subst e1 e2 e1' e2'
  obtain ⟨D2, rfl, _, hD⟩ := Rd.byte (ys := [97]) cr (k := 0) (by decide)
  refine ⟨g, c, D2, d', by rw [h1'], a0, a1, c0, c3, by simpa [Addr.add] using hD, (below_of_alloc hb)⟩

set_option maxRecDepth 100000 in
set_option maxHeartbeats 1000000 in
theorem awake_any (w : World) : Calls Try.prog 21 #[] w fun e w' => e = .returned (.bool true) ∧ Below w.heap.size w w' := by
  go_enter Try.func21, Try.ntmps21
  go_wp2_with (first
    | (go_at_call 15; (refine (dec_lit w).mono ?_); rintro e w1 ⟨g, c, D, d, rfl, q0, q1, q2, q3, q4, hb⟩)
    | fail)
  go_ret
  exact ⟨rfl, hb⟩

end Go.Proofs.Ytpafimjdlbnckaa
