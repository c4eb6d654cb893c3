/-
  The walks of frames' number and numbers.
-/
import Derived.Test.YtbhjcfhpabnadaaLaid
namespace Go.Proofs.Ytbhjcfhpabnadaa
open Go.RowKit

theorem ownE_store {w : World} {base n c g k e : Nat} {F : List UInt8} (h : Own w base e 1 (some ⟨g, 0, none⟩) n c (bv F)) (b : UInt8) : Own (w.setCell ⟨g, k, none⟩ (.int .u8 (b.toNat : Int))) base e 1 (some ⟨g, 0, none⟩) n c (bv (F.set k b)) := by
  have := World.ownsRow.stored h k (.int .u8 (b.toNat : Int))
  have e : bv (F.set k b) = (bv F).set k (.int .u8 (b.toNat : Int)) := by simp [bv, List.map_set]
  unfold Own
  rw [e]
  exact this.1
theorem ownE_cell {w : World} {base n c g k e : Nat} {F : List UInt8} {b : UInt8} (h : Own w base e 1 (some ⟨g, 0, none⟩) n c (bv F)) (hk : F[k]? = some b) : w.cell? ⟨g, k, none⟩ = some (.int .u8 (b.toNat : Int)) := by
  obtain ⟨hl, rfl⟩ := List.getElem?_eq_some_iff.1 hk
  obtain ⟨a, ha, _, hc⟩ := h.rd.byte hl
  obtain rfl := Option.some.inj ha
  rw [Addr.add_lit, Nat.zero_add] at hc
  exact hc
theorem ownE_free {w : World} {base n c g e : Nat} {F : List UInt8} (h : Own w base e 1 (some ⟨g, 0, none⟩) n c (bv F)) (k : Nat) : w.frozen? ⟨g, k, none⟩ = false := World.ownsRow.frozenAt h k

def part8 (N t : Nat) : List UInt8 := (beN N 8).take t ++ List.replicate (8 - t) 0
theorem part8_len (N : Nat) {t : Nat} (h : t ≤ 8) : (part8 N t).length = 8 := by simp [part8, beN_len]; omega
theorem part8_set (N : Nat) {t : Nat} (h : t < 8) : (part8 N t).set t (digit N (7 - t)) = part8 N (t + 1) := by
  unfold part8
  rw [beN_take h, List.set_append_right _ _ (by simp [beN_len]; omega), List.append_assoc]
  congr 1
  rw [show t - ((beN N 8).take t).length = 0 by simp [beN_len]; omega, show 8 - t = (8 - (t + 1)) + 1 by omega, List.replicate_succ]
  rfl
theorem part8_all (N : Nat) : part8 N 8 = beN N 8 := by
  unfold part8
  rw [List.take_of_length_le (by rw [beN_len]; exact Nat.le_refl _)]
  simp

set_option maxHeartbeats 400000 in
theorem num8_any (N : Nat) (w : World) :
    Calls Try.prog 67 #[.int .i64 N] w fun e w' => e = .returned (.agg (bv (beN N 8)).toArray) ∧ Below w.heap.size w w' := by
  go_enter Try.func67, Try.ntmps67
  go_wp2
  have z8 : bv (List.replicate 8 0) = [.int .u8 0, .int .u8 0, .int .u8 0, .int .u8 0, .int .u8 0, .int .u8 0, .int .u8 0, .int .u8 0] := by simp [bv]
  have s1 : Own ((w.alloc (.cells #[.int .u8 0, .int .u8 0, .int .u8 0, .int .u8 0, .int .u8 0, .int .u8 0, .int .u8 0, .int .u8 0] 118)).alloc (.cells #[.int .u8 0, .int .u8 0, .int .u8 0, .int .u8 0, .int .u8 0, .int .u8 0, .int .u8 0, .int .u8 0] 118)) w.heap.size 118 1 (some ⟨w.heap.size, 0, none⟩) 8 8 (bv (List.replicate 8 0)) := by
    rw [z8]
    exact (Own.lit (Nat.le_refl _) rfl (by unfold maxLen; omega)).alloc _
  have s2 : Own ((w.alloc (.cells #[.int .u8 0, .int .u8 0, .int .u8 0, .int .u8 0, .int .u8 0, .int .u8 0, .int .u8 0, .int .u8 0] 118)).alloc (.cells #[.int .u8 0, .int .u8 0, .int .u8 0, .int .u8 0, .int .u8 0, .int .u8 0, .int .u8 0, .int .u8 0] 118)) (w.heap.size + 1) 118 1 (some ⟨w.heap.size + 1, 0, none⟩) 8 8 (bv (part8 N 0)) := by
    rw [show part8 N 0 = List.replicate 8 0 from rfl, z8]
    have := Own.lit (w := w.alloc (.cells #[.int .u8 0, .int .u8 0, .int .u8 0, .int .u8 0, .int .u8 0, .int .u8 0, .int .u8 0, .int .u8 0] 118)) (base := w.heap.size + 1) (e := 118) (size := 1) (n := 8) (cs := #[.int .u8 0, .int .u8 0, .int .u8 0, .int .u8 0, .int .u8 0, .int .u8 0, .int .u8 0, .int .u8 0]) (by simp) rfl (by unfold maxLen; omega)
    simpa using this
  have sb : Below w.heap.size w ((w.alloc (.cells #[.int .u8 0, .int .u8 0, .int .u8 0, .int .u8 0, .int .u8 0, .int .u8 0, .int .u8 0, .int .u8 0] 118)).alloc (.cells #[.int .u8 0, .int .u8 0, .int .u8 0, .int .u8 0, .int .u8 0, .int .u8 0, .int .u8 0, .int .u8 0] 118)) := ((Below.refl _ _).alloc (Nat.le_refl _) _).alloc (by simp) _
  clear z8
  generalize hW : ((w.alloc (.cells #[.int .u8 0, .int .u8 0, .int .u8 0, .int .u8 0, .int .u8 0, .int .u8 0, .int .u8 0, .int .u8 0] 118)).alloc (.cells #[.int .u8 0, .int .u8 0, .int .u8 0, .int .u8 0, .int .u8 0, .int .u8 0, .int .u8 0, .int .u8 0] 118)) = W1 at s1 s2 sb ⊢
  clear hW
  go_loopw [5] (fun i wr => ∃ (t : Nat), t ≤ 8 ∧ i = .int .i64 t ∧ Below (w.heap.size + 1) W1 wr ∧ Own wr (w.heap.size + 1) 118 1 (some ⟨w.heap.size + 1, 0, none⟩) 8 8 (bv (part8 N t)) ∧ Below w.heap.size w wr) (fun i _ => 8 - (intOf i).toNat)
  case atStart => exact ⟨0, by omega, rfl, Below.refl _ _, s2, sb⟩
  case round =>
    obtain ⟨t, ht, rfl, h1, h2, hb⟩ := hrel
    clear s2 sb
    by_cases hlt : t < 8
    · obtain ⟨i, hi⟩ : ∃ i : Nat, i = 7 - t := ⟨_, rfl⟩
      have hsub : (56 : Int) - 8 * (t : Int) = ((8 * i : Nat) : Int) := by omega
      have hst := ownE_store (k := t) h2 (digit N (7 - t))
      rw [part8_set N hlt, ← hi, digit_val] at hst
      have hfr := ownE_free h2 t
      have hcell := ownE_cell h2 (List.getElem?_eq_getElem (i := t) (by rw [part8_len N (by omega)]; exact hlt))
      have HST := Lib.hid hst
      have HI := Lib.hid hi
      clear hst hi
      go_wp2
      go_roundw
      case rel => exact ⟨t + 1, by omega, by go_num, h1.setCell (p := ⟨w.heap.size + 1, t, none⟩) (Nat.le_refl _) _, HST.out, hb.setCell (p := ⟨w.heap.size + 1, t, none⟩) (Nat.le_succ _) _⟩
      case measure => simp [intOf]; omega
    · obtain rfl : t = 8 := by omega
      rw [part8_all] at h2
      have c1 : ∀ k, k < 8 → wr.cell? ⟨w.heap.size, k, none⟩ = some (.int .u8 0) := fun k hk => by
        rw [h1.cell (by simp)]
        exact ownE_cell (b := 0) s1 (by rw [List.getElem?_replicate, if_pos hk])
      have f1 : ∀ k, wr.frozen? ⟨w.heap.size, k, none⟩ = false := fun k => by
        rw [show wr.frozen? ⟨w.heap.size, k, none⟩ = W1.frozen? ⟨w.heap.size, k, none⟩ by unfold World.frozen?; rw [h1.block _ (by simp)]]
        exact ownE_free s1 k
      have c2 : ∀ k (hk : k < 8), wr.cell? ⟨w.heap.size + 1, k, none⟩ = some (.int .u8 ((digit N (7 - k)).toNat : Int)) := fun k hk => ownE_cell h2 (by simp [beN, hk])
      have a0 := c1 0 (by omega)
      have a1 := c1 1 (by omega)
      have a2 := c1 2 (by omega)
      have a3 := c1 3 (by omega)
      have a4 := c1 4 (by omega)
      have a5 := c1 5 (by omega)
      have a6 := c1 6 (by omega)
      have a7 := c1 7 (by omega)
      have d0 := c2 0 (by omega)
      have d1 := c2 1 (by omega)
      have d2 := c2 2 (by omega)
      have d3 := c2 3 (by omega)
      have d4 := c2 4 (by omega)
      have d5 := c2 5 (by omega)
      have d6 := c2 6 (by omega)
      have d7 := c2 7 (by omega)
      clear c1 c2
      go_wp2
      refine bodyPost_ret (v := .agg #[.int .u8 ((digit N 7).toNat : Int), .int .u8 ((digit N 6).toNat : Int), .int .u8 ((digit N 5).toNat : Int), .int .u8 ((digit N 4).toNat : Int), .int .u8 ((digit N 3).toNat : Int), .int .u8 ((digit N 2).toNat : Int), .int .u8 ((digit N 1).toNat : Int), .int .u8 ((digit N 0).toNat : Int)]) (by simp [results, Try.results67, go_sem, a0, a1, a2, a3, a4, a5, a6, a7]) rfl ⟨?_, ?_⟩
      · rfl
      · exact (((((((hb.setCell (p := ⟨w.heap.size, 0, none⟩) (Nat.le_refl _) _).setCell (p := ⟨w.heap.size, 1, none⟩) (Nat.le_refl _) _).setCell (p := ⟨w.heap.size, 2, none⟩) (Nat.le_refl _) _).setCell (p := ⟨w.heap.size, 3, none⟩) (Nat.le_refl _) _).setCell (p := ⟨w.heap.size, 4, none⟩) (Nat.le_refl _) _).setCell (p := ⟨w.heap.size, 5, none⟩) (Nat.le_refl _) _).setCell (p := ⟨w.heap.size, 6, none⟩) (Nat.le_refl _) _).setCell (p := ⟨w.heap.size, 7, none⟩) (Nat.le_refl _) _

def iv (zs : List Int) : List Value := zs.map fun z => .int .i64 z
def flatB (zs : List Int) : List UInt8 := zs.flatMap fun z => beN z.toNat 8
theorem flatB_take {zs : List Int} {t : Nat} (h : t < zs.length) : flatB (zs.take (t + 1)) = flatB (zs.take t) ++ beN zs[t].toNat 8 := by
  unfold flatB
  rw [List.take_succ_eq_append_getElem h, List.flatMap_append]
  simp
theorem flatB_len (zs : List Int) : (flatB zs).length = 8 * zs.length := by
  unfold flatB
  induction zs with
  | nil => rfl
  | cons x r ih => simp only [List.flatMap_cons, List.length_append, beN_len, ih, List.length_cons]; omega

theorem num8_lit (N : Nat) (z : Int) (hz : z = N) (w : World) :
    Calls Try.prog 67 #[.int .i64 z] w fun e w' => e = .returned (.agg #[.int .u8 ((digit N 7).toNat : Int), .int .u8 ((digit N 6).toNat : Int), .int .u8 ((digit N 5).toNat : Int), .int .u8 ((digit N 4).toNat : Int), .int .u8 ((digit N 3).toNat : Int), .int .u8 ((digit N 2).toNat : Int), .int .u8 ((digit N 1).toNat : Int), .int .u8 ((digit N 0).toNat : Int)]) ∧ Below w.heap.size w w' := by
  subst hz
  exact num8_any N w
theorem mayS_true {z : Int} (h : mayS z = true) : 0 ≤ z ∧ z ≤ 4611686018427387904 := by simpa [mayS] using h
theorem mayS_false {z : Int} (h : mayS z = false) : z < 0 ∨ (0 ≤ z ∧ 4611686018427387904 < z) := by
  simp [mayS] at h
  omega

/-- What numbers leaves. -/
def NumsOut (base m : Nat) (xs : List UInt8) (zs : List Int) (w : World) (e : Ending) (w' : World) : Prop :=
  Below base w w' ∧
    ((∀ z ∈ zs, mayS z = true) ∧ (∃ A c, e = .returned (.tuple #[.slice A (m + 8 * zs.length) c, .bool true]) ∧ Own w' base 5 1 A (m + 8 * zs.length) c (bv (xs ++ flatB zs))) ∨
     (∃ z ∈ zs, mayS z = false) ∧ e = .returned (.tuple #[.slice none 0 0, .bool false]))

set_option maxHeartbeats 800000 in
theorem numbers_any (base m : Nat) (xs : List UInt8) (zs : List Int) (A : Option Addr) (c : Nat) (L : Option Addr) (q cl : Nat) (w : World) (hb : base ≤ w.heap.size) (hA : Own w base 5 1 A m c (bv xs)) (hL : Own w base 3 1 L q cl (iv zs)) (hq : q = zs.length) (hm : m + 8 * q ≤ 140737488355328) :
    Calls Try.prog 66 #[.slice A m c, .slice L q cl] w (NumsOut base m xs zs w) := by
  go_enter Try.func66, Try.ntmps66
  go_wp2
  go_loopw [0, 7, 8, 11] (fun v _ _ i wr => ∃ (t : Nat) (A' : Option Addr) (c' : Nat), t ≤ q ∧ i = .int .i64 t ∧ v = .slice A' (m + 8 * t) c' ∧ Own wr base 5 1 A' (m + 8 * t) c' (bv (xs ++ flatB (zs.take t))) ∧ Own wr base 3 1 L q cl (iv zs) ∧ Below base w wr ∧ (∀ z ∈ zs.take t, mayS z = true)) (fun _ _ _ i _ => q - (intOf i).toNat)
  case atStart => exact ⟨0, A, c, by omega, rfl, rfl, by simpa [flatB] using hA, hL, Below.refl _ _, by simp⟩
  case round =>
    obtain ⟨t, A', c', ht, rfl, rfl, hA', hL', hbel, hall⟩ := hrel
    by_cases hlt : t < q
    · have htz : t < zs.length := by omega
      obtain ⟨gl, rfl, _⟩ := hL'.form_pos (by omega)
      obtain ⟨z, hz⟩ : ∃ z, z = zs[t] := ⟨_, rfl⟩
      have hmem : z ∈ zs := by rw [hz]; exact List.getElem_mem htz
      have hcell : wr.cell? ⟨gl, t, none⟩ = some (.int .i64 z) := by
        obtain ⟨a, ha, _, hc⟩ := hL'.rd t (.int .i64 z) (by simp [iv, htz, hz])
        obtain rfl := Option.some.inj ha
        rw [Addr.add_lit, Nat.zero_add] at hc
        exact hc
      have HZ := Lib.hid hz
      clear hz
      have hq0 := Lib.hid hq
      clear hq
      by_cases hmay : mayS z = true
      · obtain ⟨z0, z1⟩ := mayS_true hmay
        obtain ⟨N, hN⟩ : ∃ N, N = z.toNat := ⟨_, rfl⟩
        have HN := Lib.hid hN
        have HM := Lib.hid hmay
        have hzN := Lib.hid (show z = (N : Int) by omega)
        clear hN hmay
        have hbw := Nat.le_trans hb hbel.size
        go_wp2_with (first
          | (go_at_call 67; refine (num8_lit N z hzN.out wr).mono ?_; rintro e w2 ⟨rfl, b2⟩)
          | (at_builtin; (refine wpList_app rfl (.tmp 23) (.tmp 24) 22 rfl base 5 1 1 Try.el22 A' (m + 8 * t) c' _ rfl ((hA'.below b2 (Nat.le_refl _)).alloc _) (w2.heap.size + 1) (some ⟨w2.heap.size, 0, none⟩) 8 8 (bv (beN N 8)) rfl (by exact new_rd w2 #[.int .u8 ((digit N 7).toNat : Int), .int .u8 ((digit N 6).toNat : Int), .int .u8 ((digit N 5).toNat : Int), .int .u8 ((digit N 4).toNat : Int), .int .u8 ((digit N 3).toNat : Int), .int .u8 ((digit N 2).toNat : Int), .int .u8 ((digit N 1).toNat : Int), .int .u8 ((digit N 0).toNat : Int)] 118 _ (Nat.lt_succ_self _)) rfl (bv_one _) (m + 8 * t + 8) _ rfl rfl (by omega) (by unfold maxLen; omega) (by have := b2.size; simp; omega) ?_); intro A3 c3 w3 h3 hg3 hat3)
          | fail)
        have hsz2 : base ≤ w2.heap.size := Nat.le_trans hbw b2.size
        have hL3 := ((hL'.below b2 (Nat.le_refl _)).alloc _).other ((hA'.below b2 (Nat.le_refl _)).alloc _) (by decide) hg3
        have hb3 : Below base w w3 := below_own ((hbel.trans (b2.mono hbw)).alloc hsz2 _) hg3 ((hA'.below b2 (Nat.le_refl _)).alloc _) (by simp; omega)
        have h4 : Own w3 base 5 1 A3 (m + 8 * (t + 1)) c3 (bv (xs ++ flatB (zs.take (t + 1)))) := by
          rw [flatB_take htz, ← HZ.out, ← HN.out, ← List.append_assoc, bv_append]
          exact h3
        have hall4 : ∀ y ∈ zs.take (t + 1), mayS y = true := by
          intro y hy
          rw [List.take_succ_eq_append_getElem htz, List.mem_append] at hy
          rcases hy with hy | hy
          · exact hall y hy
          · rw [List.mem_singleton, ← HZ.out] at hy
            rw [hy]
            exact HM.out
        go_roundw
        case rel => exact ⟨t + 1, A3, c3, by omega, by go_num, rfl, h4, hL3, hb3, hall4⟩
        case measure => simp [intOf]; omega
      · have hmf : mayS z = false := by simpa using hmay
        have HM := Lib.hid hmf
        rcases mayS_false hmf with hc | ⟨hc1, hc2⟩
        all_goals
          clear hmay hmf
          go_wp2
          go_ret2
          exact ⟨hbel, .inr ⟨⟨z, hmem, HM.out⟩, rfl⟩⟩
    · obtain rfl : t = q := by omega
      rw [List.take_of_length_le (by omega)] at hA' hall
      go_wp2
      go_ret2
      subst hq
      exact ⟨hbel, .inl ⟨hall, A', c', rfl, hA'⟩⟩

end Go.Proofs.Ytbhjcfhpabnadaa
