/-
  The walk of frames.payload, kind 2; payload whole.
-/
import Derived.Test.YtbhjcfhpabnadaaPay2
namespace Go.Proofs.Ytbhjcfhpabnadaa
open Go.RowKit

theorem nums_yes (w W1 : World) (hW : Below w.heap.size w W1) (x : UInt8) (xi : Int) (hx : xi = (x.toNat : Int)) (zs : List Int) (ys : List UInt8) (hy : numsS [x] zs = some ys) (cs : Array Value) (hcs : cs.toList = iv zs) (g1 g2 q : Nat) (hg1 : g1 = W1.heap.size) (hg2 : g2 = W1.heap.size + 1) (hq : q = zs.length) (hm : q ≤ 3) :
    Calls Try.prog 66 #[.slice (some ⟨g1, 0, none⟩) 1 1, .slice (some ⟨g2, 0, none⟩) q q] ((W1.alloc (.cells #[.int .u8 xi] 5)).alloc (.cells cs 3)) fun e w' => ∃ A n c, e = .returned (.tuple #[.slice A n c, .bool true]) ∧ n ≤ 25 ∧ Own w' w.heap.size 5 1 A n c (bv ys) ∧ Below w.heap.size w w' ∧ n = ys.length := by
  refine (nums_more w W1 hW x xi hx zs cs hcs g1 g2 q hg1 hg2 hq hm).mono ?_
  rintro e w' ⟨A, n, c, ok, ys', rfl, hn, hA, hb, ⟨rfl, ho, hl⟩ | ⟨rfl, ho⟩⟩
  · rw [hy] at ho
    injection ho with ho
    subst ho
    exact ⟨A, n, c, rfl, hn, hA, hb, hl⟩
  · rw [hy] at ho
    cases ho

theorem nums_no (w W1 : World) (hW : Below w.heap.size w W1) (x : UInt8) (xi : Int) (hx : xi = (x.toNat : Int)) (zs : List Int) (hy : numsS [x] zs = none) (cs : Array Value) (hcs : cs.toList = iv zs) (g1 g2 q : Nat) (hg1 : g1 = W1.heap.size) (hg2 : g2 = W1.heap.size + 1) (hq : q = zs.length) (hm : q ≤ 3) :
    Calls Try.prog 66 #[.slice (some ⟨g1, 0, none⟩) 1 1, .slice (some ⟨g2, 0, none⟩) q q] ((W1.alloc (.cells #[.int .u8 xi] 5)).alloc (.cells cs 3)) fun e w' => ∃ A n c, e = .returned (.tuple #[.slice A n c, .bool false]) ∧ Below w.heap.size w w' := by
  refine (nums_more w W1 hW x xi hx zs cs hcs g1 g2 q hg1 hg2 hq hm).mono ?_
  rintro e w' ⟨A, n, c, ok, ys', rfl, hn, hA, hb, ⟨rfl, ho, hl⟩ | ⟨rfl, ho⟩⟩
  · rw [hy] at ho; cases ho
  · exact ⟨A, n, c, rfl, hb⟩

set_option maxRecDepth 100000 in
set_option maxHeartbeats 1000000 in
theorem pay2_none (name text : ByteArray) (ver frm nonce err : Int) (w : World) (h : numsS [2] [nonce, frm, ver] = none) :
    Calls Try.prog 59 #[.agg #[.int .i64 2, .string name, .int .i64 ver, .int .i64 frm, .int .i64 nonce, .int .i64 err, .string text]] w (PayOut w none) := by
  have HN := Lib.hid h
  clear h
  go_enter Try.func59, Try.ntmps59
  go_wp2_with (first
    | (go_at_call 66; refine (nums_no _ _ (Below.refl _ _) 2 2 rfl [nonce, frm, ver] HN.out #[.int .i64 nonce, .int .i64 frm, .int .i64 ver] rfl _ _ 3 (by simp) (by simp) rfl (by omega)).mono ?_; rintro e w2 ⟨A, n, c, rfl, hb⟩)
    | fail)
  go_ret2
  exact ⟨(below_box w _).trans (hb.mono (by simp)), _, rfl⟩

set_option maxRecDepth 100000 in
set_option maxHeartbeats 1000000 in
theorem pay2_long (name text : ByteArray) (ver frm nonce err : Int) (w : World) (ys : List UInt8) (h : numsS [2] [nonce, frm, ver] = some ys) (ht : 65536 < text.size) :
    Calls Try.prog 59 #[.agg #[.int .i64 2, .string name, .int .i64 ver, .int .i64 frm, .int .i64 nonce, .int .i64 err, .string text]] w (PayOut w none) := by
  have HN := Lib.hid h
  have ht2 : (65536 : Int) < (text.size : Int) := by omega
  clear h
  go_enter Try.func59, Try.ntmps59
  go_wp2_with (first
    | (go_at_call 66; refine (nums_yes _ _ (Below.refl _ _) 2 2 rfl [nonce, frm, ver] ys HN.out #[.int .i64 nonce, .int .i64 frm, .int .i64 ver] rfl _ _ 3 (by simp) (by simp) rfl (by omega)).mono ?_; rintro e w2 ⟨A, n, c, rfl, hn, hA, hb, hl⟩; have c6 : w2.cell? ⟨w.heap.size, 6, none⟩ = some (.string text) := (hb.cell (by simp)).trans (new_cell rfl rfl))
    | fail)
  go_ret2
  exact ⟨(below_box w _).trans (hb.mono (by simp)), _, rfl⟩

theorem rd_tail (W : World) (N : Nat) : Rd (W.alloc (.cells #[.int .u8 ((digit N 7).toNat : Int), .int .u8 ((digit N 6).toNat : Int), .int .u8 ((digit N 5).toNat : Int), .int .u8 ((digit N 4).toNat : Int), .int .u8 ((digit N 3).toNat : Int), .int .u8 ((digit N 2).toNat : Int), .int .u8 ((digit N 1).toNat : Int), .int .u8 ((digit N 0).toNat : Int)] 118)) (W.heap.size + 1) (some ⟨W.heap.size, 4, none⟩) (bv (beN N 4)) := by
  intro j u hu
  refine ⟨_, rfl, Nat.lt_succ_self _, ?_⟩
  match j, hu with
  | 0, hu => simp [bv, beN, List.range, List.range.loop] at hu; subst hu; simp [Addr.add]
  | 1, hu => simp [bv, beN, List.range, List.range.loop] at hu; subst hu; simp [Addr.add]
  | 2, hu => simp [bv, beN, List.range, List.range.loop] at hu; subst hu; simp [Addr.add]
  | 3, hu => simp [bv, beN, List.range, List.range.loop] at hu; subst hu; simp [Addr.add]

set_option maxRecDepth 100000 in
set_option maxHeartbeats 2000000 in
theorem pay2 (name text : ByteArray) (ver frm nonce err : Int) (w : World) (ys : List UInt8) (h : numsS [2] [nonce, frm, ver] = some ys) (ht : text.size ≤ 65536) :
    Calls Try.prog 59 #[.agg #[.int .i64 2, .string name, .int .i64 ver, .int .i64 frm, .int .i64 nonce, .int .i64 err, .string text]] w (PayOut w (some ((ys ++ beN text.size 4) ++ sB text))) := by
  have HN := Lib.hid h
  have ht2 : ¬ (65536 : Int) < (text.size : Int) := by omega
  clear h
  go_enter Try.func59, Try.ntmps59
  go_upto_region 13 with (first
    | (go_at_call 66; refine (nums_yes _ _ (Below.refl _ _) 2 2 rfl [nonce, frm, ver] ys HN.out #[.int .i64 nonce, .int .i64 frm, .int .i64 ver] rfl _ _ 3 (by simp) (by simp) rfl (by omega)).mono ?_; rintro e w2 ⟨A, n, c, rfl, hn, hA, hb, hl⟩; have c6 : w2.cell? ⟨w.heap.size, 6, none⟩ = some (.string text) := (hb.cell (by simp)).trans (new_cell rfl rfl); have HL := Lib.hid hl; clear hl)
    | (go_at_call 67; refine (num8_lit text.size _ rfl w2).mono ?_; rintro e w3 ⟨rfl, b3⟩)
    | fail)
  have hrt := rd_tail w3 text.size
  have hs2 : w.heap.size + 1 ≤ w2.heap.size := by have := hb.size; simpa using this
  have hA2 : Own w2 (w.heap.size + 1) 5 1 A n c (bv ys) := by simpa using hA
  have hA3 := hA2.below b3 (Nat.le_refl _)
  have hs3 : w.heap.size + 1 ≤ w3.heap.size := Nat.le_trans hs2 b3.size
  have hAV := hA3.alloc (.cells #[.int .u8 ((digit text.size 7).toNat : Int), .int .u8 ((digit text.size 6).toNat : Int), .int .u8 ((digit text.size 5).toNat : Int), .int .u8 ((digit text.size 4).toNat : Int), .int .u8 ((digit text.size 3).toNat : Int), .int .u8 ((digit text.size 2).toNat : Int), .int .u8 ((digit text.size 1).toNat : Int), .int .u8 ((digit text.size 0).toNat : Int)] 118)
  have bw2 : Below w.heap.size w w2 := (below_box w _).trans (hb.mono (by simp))
  have bV := (bw2.trans (b3.mono bw2.size)).alloc (by have := hs3; omega) (.cells #[.int .u8 ((digit text.size 7).toNat : Int), .int .u8 ((digit text.size 6).toNat : Int), .int .u8 ((digit text.size 5).toNat : Int), .int .u8 ((digit text.size 4).toNat : Int), .int .u8 ((digit text.size 3).toNat : Int), .int .u8 ((digit text.size 2).toNat : Int), .int .u8 ((digit text.size 1).toNat : Int), .int .u8 ((digit text.size 0).toNat : Int)] 118)
  have cV : (w3.alloc (.cells #[.int .u8 ((digit text.size 7).toNat : Int), .int .u8 ((digit text.size 6).toNat : Int), .int .u8 ((digit text.size 5).toNat : Int), .int .u8 ((digit text.size 4).toNat : Int), .int .u8 ((digit text.size 3).toNat : Int), .int .u8 ((digit text.size 2).toNat : Int), .int .u8 ((digit text.size 1).toNat : Int), .int .u8 ((digit text.size 0).toNat : Int)] 118)).cell? ⟨w.heap.size, 6, none⟩ = some (.string text) :=
    ((below_box w3 _).cell (by simp only; omega)).trans ((b3.cell (by simp only; omega)).trans c6)
  obtain ⟨V, hV⟩ : ∃ V, V = (w3.alloc (.cells #[.int .u8 ((digit text.size 7).toNat : Int), .int .u8 ((digit text.size 6).toNat : Int), .int .u8 ((digit text.size 5).toNat : Int), .int .u8 ((digit text.size 4).toNat : Int), .int .u8 ((digit text.size 3).toNat : Int), .int .u8 ((digit text.size 2).toNat : Int), .int .u8 ((digit text.size 1).toNat : Int), .int .u8 ((digit text.size 0).toNat : Int)] 118)) := ⟨_, rfl⟩
  rw [← hV] at hrt hAV bV cV ⊢
  have sV : V.heap.size = w3.heap.size + 1 := by rw [hV]; simp
  clear hV c6 hA hA2 hA3 b3 hb
  obtain ⟨z, hz⟩ : ∃ z, z = w.heap.size := ⟨_, rfl⟩
  obtain ⟨y, hy⟩ : ∃ y, y = w3.heap.size := ⟨_, rfl⟩
  rw [← hz] at hAV bV cV hs2 hs3 ⊢
  rw [← hy] at hrt hs3 sV ⊢
  have HZ := Lib.hid hz
  have HV := Lib.hid sV
  have hsV : z + 1 ≤ V.heap.size := by omega
  clear hz hy sV bw2
  go_region_held3 (fun w' => w'.cell? ⟨z, 6, none⟩ = some (.string text))
    (first
      | go_keep
      | (exact grown_cell hg3 (by simp [*]) (h2.blk_low (Nat.lt_succ_self _)))
      | (exact grown_cell hg2 (by simp [*]) (hAV.blk_low (Nat.lt_succ_self _))))
    ((first
      | (refine step_app (by rfl) _ _ _ (by rfl) (z + 1) 5 1 1 Try.el22 A n c (bv ys) (by rfl) hAV.drew_ (y + 1) (some ⟨y, 4, none⟩) 4 4 _ (by rfl) (hrt.drewN 1) rfl (bv_one _) (n + 4) _ rfl (bv_append _ _).symm (by omega) (by unfold maxLen; omega) hsV ?_; intro A2 c2' w2 h2 hg2 hat2; have b2 := below_own ((Below.refl _ V).drew) hg2 hAV.drew_ hsV)
      | (refine step_appS (by rfl) _ _ (by rfl) (z + 1) A2 (n + 4) c2' _ (by rfl) h2 text (by rfl) (n + 4 + text.size) (bv ((ys ++ beN text.size 4) ++ sB text)) rfl (bv_append _ _).symm (by omega) (by unfold maxLen; omega) (by have := b2.size; omega) ?_; intro A3 c3 w3 h3 hg3; have b3 := below_own b2 hg3 h2 (by have := b2.size; omega))
      | fail))
  all_goals
    go_wp2
    go_ret2
    refine ⟨?_, A3, c3, ?_, ?_⟩
    · have := bV.trans (b3.mono (Nat.le_succ z))
      rw [HZ.out] at this
      exact this
    · rw [List.length_append, List.length_append, beN_len, sB_len, ← HL.out]
      rfl
    · rw [List.length_append, List.length_append, beN_len, sB_len, ← HL.out]
      exact h3.base_le (by have := HZ.out; omega)

/-- What the chapter says of a message's payload. -/
def paySpec (kind : Int) (name text : ByteArray) (ver frm nonce err : Int) : Option (List UInt8) :=
  if kind = 1 then (if 1 ≤ name.size ∧ name.size ≤ 64 then numsS ([1, UInt8.ofNat name.size] ++ sB name) [ver] else none)
  else if kind = 2 then (if text.size ≤ 65536 then (numsS [2] [nonce, frm, ver]).map (fun ys => (ys ++ beN text.size 4) ++ sB text) else none)
  else if kind = 3 then numsS [3] [nonce, ver]
  else if kind = 4 then (if 1 ≤ err ∧ err ≤ 65535 then (numsS [4] [nonce, ver]).map (· ++ beN err.toNat 2) else none)
  else if kind = 5 then numsS [5] [nonce]
  else none

theorem payload_any (kind : Int) (name text : ByteArray) (ver frm nonce err : Int) (w : World) :
    Calls Try.prog 59 #[.agg #[.int .i64 kind, .string name, .int .i64 ver, .int .i64 frm, .int .i64 nonce, .int .i64 err, .string text]] w (PayOut w (paySpec kind name text ver frm nonce err)) := by
  unfold paySpec
  by_cases h1 : kind = 1
  · subst h1
    rw [if_pos rfl]
    by_cases hn : 1 ≤ name.size ∧ name.size ≤ 64
    · rw [if_pos hn]
      exact pay1 name text ver frm nonce err w hn.1 hn.2
    · rw [if_neg hn]
      exact pay1_bad name text ver frm nonce err w (by omega)
  · rw [if_neg h1]
    by_cases h2 : kind = 2
    · subst h2
      rw [if_pos rfl]
      cases hs : numsS [2] [nonce, frm, ver] with
      | none =>
        have : (if text.size ≤ 65536 then Option.map (fun ys => ys ++ beN text.size 4 ++ sB text) (none : Option (List UInt8)) else none) = none := by split <;> rfl
        rw [this]
        exact pay2_none name text ver frm nonce err w hs
      | some ys =>
        by_cases ht : text.size ≤ 65536
        · rw [if_pos ht]
          exact pay2 name text ver frm nonce err w ys hs ht
        · rw [if_neg ht]
          exact pay2_long name text ver frm nonce err w ys hs (by omega)
    · rw [if_neg h2]
      by_cases h3 : kind = 3
      · subst h3
        rw [if_pos rfl]
        exact pay3 name text ver frm nonce err w
      · rw [if_neg h3]
        by_cases h4 : kind = 4
        · subst h4
          rw [if_pos rfl]
          by_cases he : 1 ≤ err ∧ err ≤ 65535
          · rw [if_pos he]
            obtain ⟨e, he2⟩ : ∃ e : Nat, err = (e : Int) := ⟨err.toNat, by omega⟩
            subst he2
            have := pay4 name text ver frm nonce e w (by omega) (by omega)
            rw [errS, if_pos (by omega)] at this
            simpa using this
          · rw [if_neg he]
            exact pay4_bad name text ver frm nonce err w (by omega)
        · rw [if_neg h4]
          by_cases h5 : kind = 5
          · subst h5
            rw [if_pos rfl]
            exact pay5 name text ver frm nonce err w
          · rw [if_neg h5]
            exact pay0 kind name text ver frm nonce err w (by simpa using h1) (by simpa using h2) (by simpa using h3) (by simpa using h4) (by simpa using h5)

end Go.Proofs.Ytbhjcfhpabnadaa
