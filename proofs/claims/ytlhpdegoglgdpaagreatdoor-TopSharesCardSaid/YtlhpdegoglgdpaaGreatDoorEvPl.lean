/- A part of the proof of TopShares: for every row of weights the law returns true, and the row reads as before. No condition beyond the statement's own. -/
import Derived.Test.YtlhpdegoglgdpaaGreatDoorEvPm
import Derived.Test.YtlhpdegoglgdpaaGreatDoorEvPn
set_option linter.all false
set_option linter.unusedVariables false
set_option linter.unusedSimpArgs false
set_option linter.constructorNameAsVariable false
set_option linter.deprecated false
namespace Go.Ev
noncomputable section
open Go
theorem uT_gt : (List.range 101).all (fun w => gtF (uW w) 0 == !(w == 0)) = true := by decide +kernel
theorem tab_add (W : Nat) (h : W < 101) : addOk W = true := by
  by_cases h0 : W < 5
  · exact addsOk_at 5 0 adds_0 W (by omega) (by omega)
  by_cases h5 : W < 10
  · exact addsOk_at 5 5 adds_5 W (by omega) (by omega)
  by_cases h10 : W < 15
  · exact addsOk_at 5 10 adds_10 W (by omega) (by omega)
  by_cases h15 : W < 20
  · exact addsOk_at 5 15 adds_15 W (by omega) (by omega)
  by_cases h20 : W < 25
  · exact addsOk_at 5 20 adds_20 W (by omega) (by omega)
  by_cases h25 : W < 30
  · exact addsOk_at 5 25 adds_25 W (by omega) (by omega)
  by_cases h30 : W < 35
  · exact addsOk_at 5 30 adds_30 W (by omega) (by omega)
  by_cases h35 : W < 40
  · exact addsOk_at 5 35 adds_35 W (by omega) (by omega)
  by_cases h40 : W < 45
  · exact addsOk_at 5 40 adds_40 W (by omega) (by omega)
  by_cases h45 : W < 50
  · exact addsOk_at 5 45 adds_45 W (by omega) (by omega)
  by_cases h50 : W < 55
  · exact addsOk_at 5 50 adds_50 W (by omega) (by omega)
  by_cases h55 : W < 60
  · exact addsOk_at 5 55 adds_55 W (by omega) (by omega)
  by_cases h60 : W < 65
  · exact addsOk_at 5 60 adds_60 W (by omega) (by omega)
  by_cases h65 : W < 70
  · exact addsOk_at 5 65 adds_65 W (by omega) (by omega)
  by_cases h70 : W < 75
  · exact addsOk_at 5 70 adds_70 W (by omega) (by omega)
  by_cases h75 : W < 80
  · exact addsOk_at 5 75 adds_75 W (by omega) (by omega)
  by_cases h80 : W < 85
  · exact addsOk_at 5 80 adds_80 W (by omega) (by omega)
  by_cases h85 : W < 90
  · exact addsOk_at 5 85 adds_85 W (by omega) (by omega)
  by_cases h90 : W < 95
  · exact addsOk_at 5 90 adds_90 W (by omega) (by omega)
  by_cases h95 : W < 100
  · exact addsOk_at 5 95 adds_95 W (by omega) (by omega)
  exact addsOk_at 1 100 adds_100 W (by omega) (by omega)
theorem tab_gt : (List.range 101).all (fun W => (tab.getD W []).all fun s => (List.range 100).all fun k => gtF s (uK k) == Nat.blt k W) = true := by decide +kernel
theorem one_gt : (List.range 100).all (fun k => gtF oneW (uK k)) = true := by decide +kernel
theorem uW_gt {w : Nat} (h : w ≤ 100) : gtF (uW w) 0 = !(w == 0) := by
  have := List.all_eq_true.1 uT_gt w (List.mem_range.2 (by omega))
  exact eq_of_beq this
theorem tab_add' {W s w : Nat} (hs : s ∈ tab.getD W []) (hw : 0 < w) (h : W + w ≤ 100) : ∃ t, F64.add s (uW w) = some t ∧ t ∈ tab.getD (W + w) [] := by
  have h1 := tab_add W (by omega)
  unfold addOk at h1
  have h2 := List.all_eq_true.1 h1 s hs
  have h3 := List.all_eq_true.1 h2 w (List.mem_range.2 (by omega))
  have h0 : (w == 0) = false := by simp; omega
  rw [h0, Bool.false_or] at h3
  split at h3
  · rename_i t ht
    exact ⟨t, ht, by simpa using h3⟩
  · cases h3
theorem tab_gt' {W s k : Nat} (hs : s ∈ tab.getD W []) (hW : W ≤ 100) (hk : k < 100) : gtF s (uK k) = decide (k < W) := by
  have h1 := List.all_eq_true.1 tab_gt W (List.mem_range.2 (by omega))
  have h2 := List.all_eq_true.1 h1 s hs
  have h3 := List.all_eq_true.1 h2 k (List.mem_range.2 (by omega))
  have h4 := eq_of_beq h3
  rw [h4]
  unfold Nat.blt
  by_cases h : k < W
  · simp [h]; exact h
  · simp only [h, decide_false]
    apply Bool.eq_false_iff.2
    intro e
    exact h (Nat.le_of_ble_eq_true e)
theorem one_gt' {k : Nat} (hk : k < 100) : gtF oneW (uK k) = true := List.all_eq_true.1 one_gt k (List.mem_range.2 (by omega))
def parts (names : List Value) (ws : List Nat) : List (Value × Nat) := names.zip (ws.map uW)
theorem gt_iff {x : Nat} : (FloatKind.f64.format.order x 0 == some .gt) = gtF x 0 := rfl
theorem sumsOf_zero {n : Value} {u t : Nat} {l : List (Value × Nat)} (h : gtF u 0 = false) : sumsOf ((n, u) :: l) t = sumsOf l t := by
  conv => lhs; unfold sumsOf
  rw [gt_iff, h]; rfl
theorem sumsOf_pos {n : Value} {u t t' : Nat} {l : List (Value × Nat)} (h : gtF u 0 = true) (ht : F64.add t u = some t') : sumsOf ((n, u) :: l) t = (n, t') :: sumsOf l t' := by
  conv => lhs; unfold sumsOf
  rw [gt_iff, h]
  simp only [if_true]
  rw [show FloatKind.f64.format.add t u = some t' from ht]
theorem sumsOk_zero {n : Value} {u t : Nat} {l : List (Value × Nat)} (h : gtF u 0 = false) : sumsOk ((n, u) :: l) t = sumsOk l t := by
  conv => lhs; unfold sumsOk
  rw [gt_iff, h]; rfl
theorem sumsOk_pos {n : Value} {u t t' : Nat} {l : List (Value × Nat)} (h : gtF u 0 = true) (ht : F64.add t u = some t') (hl : sumsOk l t') : sumsOk ((n, u) :: l) t := by
  unfold sumsOk
  rw [gt_iff, h]
  exact ⟨t', ht, hl⟩
theorem sumsOf_nil : ∀ (ws : List Nat) (names : List Value) (W s : Nat), s ∈ tab.getD W [] → W + ws.sum ≤ 100 → names.length = ws.length → sumsOf (parts names ws) s = [] → ws.sum = 0
  | [], _, _, _, _, _, _, _ => rfl
  | w :: ws, [], W, s, hs, hW, hl, h => by simp at hl
  | w :: ws, n :: names, W, s, hs, hW, hl, h => by
    simp only [List.sum_cons] at hW ⊢
    simp only [List.length_cons, Nat.add_right_cancel_iff] at hl
    have e : parts (n :: names) (w :: ws) = (n, uW w) :: parts names ws := rfl
    rw [e] at h
    have hg := uW_gt (w := w) (by omega)
    rcases Nat.eq_zero_or_pos w with rfl | hw
    · rw [sumsOf_zero hg] at h
      have := sumsOf_nil ws names W s hs (by omega) hl h
      omega
    · have hg' : gtF (uW w) 0 = true := by rw [hg]; simp; omega
      obtain ⟨t, ht, _⟩ := tab_add' hs hw (by omega)
      rw [sumsOf_pos hg' ht] at h
      cases h
theorem scan : ∀ (ws : List Nat) (names : List Value) (W s : Nat), s ∈ tab.getD W [] → W + ws.sum = 100 → names.length = ws.length →
    sumsOk (parts names ws) s ∧ ∀ k, k < 100 → W ≤ k → ∃ i j x n, W + (ws.take i).sum ≤ k ∧ k < W + (ws.take (i + 1)).sum ∧ i < ws.length ∧ names[i]? = some n ∧
      (lastOne (sumsOf (parts names ws) s))[j]? = some (n, x) ∧ gtF x (uK k) = true ∧ ∀ (j' : Nat) (p : Value × Nat), j' < j → (lastOne (sumsOf (parts names ws) s))[j']? = some p → gtF p.2 (uK k) = false
  | [], names, W, s, hs, hW, hl => ⟨by cases names <;> trivial, fun k h1 h2 => by simp at hW; omega⟩
  | w :: ws, [], W, s, hs, hW, hl => by simp at hl
  | w :: ws, n :: names, W, s, hs, hW, hl => by
    simp only [List.sum_cons] at hW
    simp only [List.length_cons, Nat.add_right_cancel_iff] at hl
    have e : parts (n :: names) (w :: ws) = (n, uW w) :: parts names ws := rfl
    have hg := uW_gt (w := w) (by omega)
    rw [e]
    rcases Nat.eq_zero_or_pos w with rfl | hw
    · obtain ⟨h1, h2⟩ := scan ws names W s hs (by omega) hl
      refine ⟨by rw [sumsOk_zero hg]; exact h1, fun k hk hWk => ?_⟩
      obtain ⟨i, j, x, m, a1, a2, a3, a4, a5, a6, a7⟩ := h2 k hk hWk
      rw [sumsOf_zero hg]
      exact ⟨i + 1, j, x, m, by simpa using a1, by simpa using a2, by simpa using a3, by simpa using a4, a5, a6, a7⟩
    · have hg' : gtF (uW w) 0 = true := by rw [hg]; simp; omega
      obtain ⟨t, ht, htab⟩ := tab_add' hs hw (by omega)
      obtain ⟨h1, h2⟩ := scan ws names (W + w) t htab (by omega) hl
      refine ⟨sumsOk_pos hg' ht h1, fun k hk hWk => ?_⟩
      rw [sumsOf_pos hg' ht]
      cases hrest : sumsOf (parts names ws) t with
      | nil =>
        have := sumsOf_nil ws names (W + w) t htab (by omega) hl hrest
        exact ⟨0, 0, oneW, n, by simpa using hWk, by simp; omega, by simp, rfl, rfl, one_gt' hk, fun j' p hj => by omega⟩
      | cons r rs =>
        rw [hrest] at h2
        have el : lastOne ((n, t) :: r :: rs) = (n, t) :: lastOne (r :: rs) := rfl
        rw [el]
        by_cases hkw : k < W + w
        · exact ⟨0, 0, t, n, by simpa using hWk, by simpa using hkw, by simp, rfl, rfl, by rw [tab_gt' htab (by omega) hk]; simpa using hkw, fun j' p hj => by omega⟩
        · obtain ⟨i, j, x, m, a1, a2, a3, a4, a5, a6, a7⟩ := h2 k hk (by omega)
          refine ⟨i + 1, j + 1, x, m, by simpa [Nat.add_assoc] using a1, by simpa [Nat.add_assoc] using a2, by simpa using a3, by simpa using a4, by simpa using a5, a6, fun j' p hj hp => ?_⟩
          cases j' with
          | zero =>
            simp only [List.getElem?_cons_zero, Option.some.injEq] at hp
            subst hp
            rw [tab_gt' htab (by omega) hk]
            simpa using hkw
          | succ j' => exact a7 j' p (by omega) (by simpa using hp)
theorem scan0 (ws : List Nat) (names : List Value) (h : ws.sum = 100) (hl : names.length = ws.length) :
    sumsOk (parts names ws) 0 ∧ ∀ k, k < 100 → ∃ i j x n, (ws.take i).sum ≤ k ∧ k < (ws.take (i + 1)).sum ∧ i < ws.length ∧ names[i]? = some n ∧
      (lastOne (sumsOf (parts names ws) 0))[j]? = some (n, x) ∧ gtF x (uK k) = true ∧ ∀ (j' : Nat) (p : Value × Nat), j' < j → (lastOne (sumsOf (parts names ws) 0))[j']? = some p → gtF p.2 (uK k) = false := by
  obtain ⟨h1, h2⟩ := scan ws names 0 0 (by decide +kernel) (by omega) hl
  refine ⟨h1, fun k hk => ?_⟩
  obtain ⟨i, j, x, m, a1, a2, a3⟩ := h2 k hk (by omega)
  exact ⟨i, j, x, m, by omega, by omega, a3⟩
def got (ws : List Nat) (k i : Nat) : Nat := min k (ws.take (i + 1)).sum - min k (ws.take i).sum
theorem take_le (ws : List Nat) (i : Nat) : (ws.take i).sum ≤ (ws.take (i + 1)).sum := by
  rw [List.take_succ]
  simp
theorem got_zero (ws : List Nat) (i : Nat) : got ws 0 i = 0 := by simp [got]
theorem got_hit (ws : List Nat) {k i : Nat} (h1 : (ws.take i).sum ≤ k) (h2 : k < (ws.take (i + 1)).sum) : got ws (k + 1) i = got ws k i + 1 := by
  unfold got; omega
theorem take_mono (ws : List Nat) : ∀ (i j : Nat), i ≤ j → (ws.take i).sum ≤ (ws.take j).sum := by
  intro i j h
  induction j with
  | zero => rw [show i = 0 from by omega]; exact Nat.le_refl _
  | succ j ih =>
    rcases Nat.lt_or_ge i (j + 1) with h' | h'
    · exact Nat.le_trans (ih (by omega)) (take_le ws j)
    · rw [show i = j + 1 from by omega]; exact Nat.le_refl _
theorem got_miss (ws : List Nat) {k i l : Nat} (h1 : (ws.take i).sum ≤ k) (h2 : k < (ws.take (i + 1)).sum) (hl : l ≠ i) : got ws (k + 1) l = got ws k l := by
  have h3 := take_le ws l
  rcases Nat.lt_or_gt_of_ne hl with h | h
  · have := take_mono ws (l + 1) i h
    unfold got; omega
  · have := take_mono ws (i + 1) l h
    unfold got; omega
theorem got_all (ws : List Nat) (h : ws.sum = 100) (i w : Nat) (hw : ws[i]? = some w) : got ws 100 i = w := by
  have h1 := take_mono ws (i + 1) ws.length (by have := (List.getElem?_eq_some_iff.1 hw).1; omega)
  rw [List.take_length] at h1
  have h2 : (ws.take (i + 1)).sum = (ws.take i).sum + w := by
    rw [List.take_succ, hw]; simp
  unfold got; omega
end
end Go.Ev
