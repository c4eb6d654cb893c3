/-
  Frames one behind the other, and what a scan of them answers, wherever they are cut. No program in sight.
-/
import Derived.Test.YtbhjcfhpabnadaaScanC
namespace Go.Proofs.Ytbhjcfhpabnadaa
open Go.RowKit

def okP (p : List UInt8) : Bool := decide (p.length ≤ 131072)
/-- The payloads that are not too long. -/
def goods (l : List (List UInt8)) : List (List UInt8) := l.filter okP
/-- Their frames, one behind the other. -/
def catF (l : List (List UInt8)) : List UInt8 := l.flatMap frame
/-- Of each the place behind its frame, and itself. -/
def ends : Nat → List (List UInt8) → List (Nat × List UInt8)
  | _, [] => []
  | k, p :: r => (k + (8 + p.length), p) :: ends (k + (8 + p.length)) r

theorem four_form (l : List UInt8) (h : l.length = 4) : ∃ a b c d, l = [a, b, c, d] := by
  match l, h with
  | [a, b, c, d], _ => exact ⟨a, b, c, d, rfl⟩

theorem be4_form {n : Nat} (h : n < 4294967296) : ∃ a b c d, be4 n = [a, b, c, d] ∧ num4 a b c d = n := by
  obtain ⟨a, b, c, d, he⟩ := four_form (be4 n) rfl
  refine ⟨a, b, c, d, he, ?_⟩
  have h2 := be4_num4 a b c d
  exact be4_inj (num4_lt a b c d) h (h2.trans he.symm)

theorem nextS_frame {p r : List UInt8} (h : p.length ≤ 131072) : nextS (frame p ++ r) = some p := by
  obtain ⟨a, b, c, d, h1, h2⟩ := be4_form (n := p.length) (by omega)
  obtain ⟨e, f, g, i, h3, h4⟩ := be4_form (n := more 0 (be4 p.length ++ p)) (more_lt _ (by omega))
  have hf : frame p ++ r = a :: b :: c :: d :: e :: f :: g :: i :: (p ++ r) := by
    unfold frame
    rw [h1] at h3 ⊢
    rw [h3]
    simp
  rw [hf]
  simp only [nextS]
  rw [h2, h4, List.take_left, if_pos ⟨h, by simp, by rw [h1]⟩]

/-- A frame that is cut off begins with no record. -/
theorem nextS_cut {p : List UInt8} (h : p.length ≤ 131072) {j : Nat} (hj : j < 8 + p.length) : nextS ((frame p).take j) = none := by
  by_cases h8 : j < 8
  · exact nextS_short (by rw [List.length_take]; omega)
  · obtain ⟨a, b, c, d, h1, h2⟩ := be4_form (n := p.length) (by omega)
    obtain ⟨e, f, g, i, h3, h4⟩ := be4_form (n := more 0 (be4 p.length ++ p)) (more_lt _ (by omega))
    obtain ⟨m, rfl⟩ : ∃ m, j = m + 8 := ⟨j - 8, by omega⟩
    have hf : (frame p).take (m + 8) = a :: b :: c :: d :: e :: f :: g :: i :: (p.take m) := by
      unfold frame
      rw [h1] at h3 ⊢
      rw [h3]
      simp
    rw [hf]
    simp only [nextS]
    rw [h2, if_neg]
    rintro ⟨_, hl, _⟩
    rw [List.length_take] at hl
    omega

theorem catF_cons (p : List UInt8) (l : List (List UInt8)) : catF (p :: l) = frame p ++ catF l := by simp [catF]
theorem catF_snoc (l : List (List UInt8)) (p : List UInt8) : catF (l ++ [p]) = catF l ++ frame p := by simp [catF]

theorem scan_cat : ∀ (l : List (List UInt8)) (k : Nat) (r : List UInt8), (∀ p ∈ l, p.length ≤ 131072) → scanR k (catF l ++ r) = ends k l ++ scanR (k + (catF l).length) r
  | [], k, r, _ => by simp [catF, ends]
  | p :: l, k, r, h => by
    have hn : nextS (catF (p :: l) ++ r) = some p := by
      rw [catF_cons, List.append_assoc]
      exact nextS_frame (h p (by simp))
    rw [scanR_some hn, catF_cons, List.append_assoc, List.drop_append_of_le_length (by rw [frame_len]; exact Nat.le_refl _), List.drop_of_length_le (by rw [frame_len]; exact Nat.le_refl _), List.nil_append,
      scan_cat l _ r (fun q hq => h q (by simp [hq]))]
    simp only [ends, List.cons_append, List.length_append, frame_len]
    rw [show k + (8 + p.length) + (catF l).length = k + (8 + p.length + (catF l).length) by omega]

theorem ends_pays : ∀ (l : List (List UInt8)) (k : Nat), (ends k l).map (·.2) = l
  | [], _ => rfl
  | p :: l, k => by simp [ends, ends_pays l]
theorem ends_len (l : List (List UInt8)) (k : Nat) : (ends k l).length = l.length := by
  have := congrArg List.length (ends_pays l k)
  simpa using this
theorem ends_snoc : ∀ (l : List (List UInt8)) (k : Nat) (p : List UInt8), ends k (l ++ [p]) = ends k l ++ [(k + (catF l).length + (8 + p.length), p)]
  | [], k, p => by simp [ends, catF]
  | q :: l, k, p => by
    simp only [List.cons_append, ends, ends_snoc l, catF_cons, List.length_append, frame_len]
    simp [Nat.add_assoc]
theorem ends_last (l : List (List UInt8)) : lastK (ends 0 l) = (catF l).length := by
  rcases List.eq_nil_or_concat l with rfl | ⟨r, p, rfl⟩
  · rfl
  · rw [List.concat_eq_append, ends_snoc, lastK_snoc, catF_snoc, List.length_append, frame_len]
    simp

theorem goods_ok (l : List (List UInt8)) : ∀ p ∈ goods l, p.length ≤ 131072 := by
  intro p hp
  have := (List.mem_filter.1 hp).2
  simpa [okP] using this

/-- A row of frames and bytes that begin with no record. -/
theorem scan_tail {l : List (List UInt8)} {r : List UInt8} (h : ∀ p ∈ l, p.length ≤ 131072) (hr : nextS r = none) : scanR 0 (catF l ++ r) = ends 0 l := by
  rw [scan_cat l 0 r h, scanR_none hr, List.append_nil]
theorem scan_all {l : List (List UInt8)} (h : ∀ p ∈ l, p.length ≤ 131072) : scanR 0 (catF l) = ends 0 l := by
  have := scan_tail (r := []) h rfl
  rwa [List.append_nil] at this

theorem ends_get : ∀ (l : List (List UInt8)) (k j : Nat) (h : j < l.length), ((ends k l)[j]'(by rw [ends_len]; exact h)).1 = k + (catF (l.take (j + 1))).length
  | [], _, _, h => by simp at h
  | p :: l, k, 0, _ => by simp [ends, catF, frame_len]
  | p :: l, k, j + 1, h => by
    simp only [ends, List.getElem_cons_succ, List.take_succ_cons, catF_cons, List.length_append, frame_len]
    rw [ends_get l _ j (by simpa using h)]
    omega

theorem catF_take_le (l : List (List UInt8)) (j : Nat) : (catF (l.take j)).length ≤ (catF l).length := by
  have : catF l = catF (l.take j) ++ catF (l.drop j) := by
    unfold catF
    rw [← List.flatMap_append, List.take_append_drop]
  rw [this, List.length_append]
  omega

/-- A row of frames cut off at k: the first m are whole, the next (if there is one) is not. -/
theorem scan_cut {l : List (List UInt8)} (h : ∀ p ∈ l, p.length ≤ 131072) {k m : Nat} (_ : k ≤ (catF l).length) (_ : m ≤ l.length) (h1 : (catF (l.take m)).length ≤ k) (h2 : m < l.length → k < (catF (l.take (m + 1))).length) :
    scanR 0 ((catF l).take k) = ends 0 (l.take m) := by
  have hl : catF l = catF (l.take m) ++ catF (l.drop m) := by
    unfold catF
    rw [← List.flatMap_append, List.take_append_drop]
  have ht : (catF l).take k = catF (l.take m) ++ (catF (l.drop m)).take (k - (catF (l.take m)).length) := by
    rw [hl, List.take_append, List.take_of_length_le h1]
  rw [ht]
  refine scan_tail (fun p hp => h p (List.mem_of_mem_take hp)) ?_
  by_cases hlt : m < l.length
  · have h3 := h2 hlt
    rw [List.take_succ_eq_append_getElem hlt, catF_snoc, List.length_append, frame_len] at h3
    rw [List.drop_eq_getElem_cons hlt, catF_cons, List.take_append_of_le_length (by rw [frame_len]; omega)]
    exact nextS_cut (h _ (List.getElem_mem hlt)) (by omega)
  · have : l.drop m = [] := List.drop_of_length_le (by omega)
    rw [this]
    simp [catF, nextS]

/-- Bytes of a list of payloads. -/
def totalB (l : List (List UInt8)) : Nat := (l.map fun p => p.length + 1).sum
theorem catF_bound : ∀ (l : List (List UInt8)), (catF l).length ≤ 8 * totalB l
  | [] => by simp [catF, totalB]
  | p :: l => by
    have := catF_bound l
    rw [catF_cons, List.length_append, frame_len]
    simp only [totalB, List.map_cons, List.sum_cons] at this ⊢
    omega
theorem goods_total : ∀ (l : List (List UInt8)), totalB (goods l) ≤ totalB l
  | [] => Nat.le_refl _
  | p :: l => by
    have := goods_total l
    unfold goods at *
    rw [List.filter_cons]
    split <;> simp only [totalB, List.map_cons, List.sum_cons] at this ⊢ <;> omega
theorem total_take : ∀ (l : List (List UInt8)) (j : Nat), totalB (l.take j) ≤ totalB l
  | [], _ => by simp
  | p :: l, 0 => by simp [totalB]
  | p :: l, j + 1 => by
    have := total_take l j
    simp only [totalB, List.take_succ_cons, List.map_cons, List.sum_cons] at this ⊢
    omega
theorem total_len : ∀ (l : List (List UInt8)), l.length ≤ totalB l
  | [] => Nat.le_refl _
  | p :: l => by
    have := total_len l
    simp only [totalB, List.map_cons, List.sum_cons, List.length_cons] at this ⊢
    omega
theorem total_get (l : List (List UInt8)) (j : Nat) (h : j < l.length) : l[j].length + 1 ≤ totalB l := by
  have h1 := total_take l (j + 1)
  rw [List.take_succ_eq_append_getElem h] at h1
  simp only [totalB, List.map_append, List.sum_append, List.map_cons, List.map_nil, List.sum_cons, List.sum_nil] at h1 ⊢
  omega

end Go.Proofs.Ytbhjcfhpabnadaa
