/-
  The walk of frames.payload.
-/
import Derived.Test.YtbhjcfhpabnadaaNum8
namespace Go.Proofs.Ytbhjcfhpabnadaa
open Go.RowKit

structure Msg where
  kind : Int
  name : ByteArray
  version : Int
  frm : Int
  nonce : Int
  err : Int
  text : ByteArray

def msgV (m : Msg) : Value := .agg #[.int .i64 m.kind, .string m.name, .int .i64 m.version, .int .i64 m.frm, .int .i64 m.nonce, .int .i64 m.err, .string m.text]

/-- What payload leaves. -/
def PayOut (w : World) (o : Option (List UInt8)) (e : Ending) (w' : World) : Prop :=
  Below w.heap.size w w' ∧ match o with
    | some p => ∃ A c, e = .returned (.tuple #[.slice A p.length c, .bool true]) ∧ Own w' w.heap.size 5 1 A p.length c (bv p)
    | none => ∃ v, e = .returned (.tuple #[v, .bool false])

def numsS (head : List UInt8) (zs : List Int) : Option (List UInt8) := if (zs.all mayS) = true then some (head ++ flatB zs) else none

theorem pay_of {w w1 w' : World} {x : UInt8} {zs : List Int} {e : Ending} (hb : Below w.heap.size w w1) (h : NumsOut w.heap.size 1 [x] zs w1 e w') : PayOut w (numsS [x] zs) e w' := by
  obtain ⟨hb2, h⟩ := h
  refine ⟨hb.trans hb2, ?_⟩
  rcases h with ⟨hall, A, c, rfl, ho⟩ | ⟨⟨z, hz, hf⟩, rfl⟩
  · have : zs.all mayS = true := List.all_eq_true.2 hall
    rw [numsS, if_pos this]
    have hl : ([x] ++ flatB zs).length = 1 + 8 * zs.length := by rw [List.length_append, flatB_len]; rfl
    simp only
    rw [hl]
    exact ⟨A, c, rfl, ho⟩
  · have : ¬ zs.all mayS = true := fun h => by
      rw [List.all_eq_true.1 h z hz] at hf
      cases hf
    rw [numsS, if_neg this]
    exact ⟨_, rfl⟩

theorem nums_new (w W1 : World) (hW : Below w.heap.size w W1) (x : UInt8) (xi : Int) (hx : xi = (x.toNat : Int)) (zs : List Int) (cs : Array Value) (hcs : cs.toList = iv zs) (g1 g2 q : Nat) (hg1 : g1 = W1.heap.size) (hg2 : g2 = W1.heap.size + 1) (hq : q = zs.length) (hm : q ≤ 3) :
    Calls Try.prog 66 #[.slice (some ⟨g1, 0, none⟩) 1 1, .slice (some ⟨g2, 0, none⟩) q q] ((W1.alloc (.cells #[.int .u8 xi] 5)).alloc (.cells cs 3)) fun e w' => ∃ A n c ok, e = .returned (.tuple #[.slice A n c, .bool ok]) ∧ PayOut w (numsS [x] zs) e w' := by
  subst hx hg1 hg2
  have hs := hW.size
  have h1 : Own ((W1.alloc (.cells #[.int .u8 (x.toNat : Int)] 5)).alloc (.cells cs 3)) w.heap.size 5 1 (some ⟨W1.heap.size, 0, none⟩) 1 1 (bv [x]) :=
    (Own.lit (w := W1) (cs := #[.int .u8 (x.toNat : Int)]) hs rfl (by unfold maxLen; omega)).alloc _
  have h2 : Own ((W1.alloc (.cells #[.int .u8 (x.toNat : Int)] 5)).alloc (.cells cs 3)) w.heap.size 3 1 (some ⟨W1.heap.size + 1, 0, none⟩) q q (iv zs) := by
    have := Own.lit (w := W1.alloc (.cells #[.int .u8 (x.toNat : Int)] 5)) (base := w.heap.size) (e := 3) (size := 1) (n := q) (cs := cs) (by simp; omega) (by rw [← Array.length_toList, hcs]; simp [iv, hq]) (by unfold maxLen; omega)
    rw [hcs] at this
    simpa using this
  have hb : Below w.heap.size w ((W1.alloc (.cells #[.int .u8 (x.toNat : Int)] 5)).alloc (.cells cs 3)) := (hW.alloc hs _).alloc (by simp; omega) _
  refine (numbers_any w.heap.size 1 [x] zs _ 1 _ q q _ hb.size h1 h2 hq (by omega)).mono fun e w' h => ?_
  have hp := pay_of hb h
  rcases h.2 with ⟨_, A, c, he, _⟩ | ⟨_, he⟩
  · exact ⟨_, _, _, _, he, hp⟩
  · exact ⟨_, _, _, _, he, hp⟩

theorem below_box (w : World) (o : Obj) : Below w.heap.size w (w.alloc o) := (Below.refl _ _).alloc (Nat.le_refl _) _

set_option maxRecDepth 100000 in
set_option maxHeartbeats 800000 in
theorem pay5 (name text : ByteArray) (ver frm nonce err : Int) (w : World) :
    Calls Try.prog 59 #[.agg #[.int .i64 5, .string name, .int .i64 ver, .int .i64 frm, .int .i64 nonce, .int .i64 err, .string text]] w (PayOut w (numsS [5] [nonce])) := by
  go_enter Try.func59, Try.ntmps59
  go_wp2_with (first
    | (go_at_call 66; (refine (nums_new w _ (below_box w _) 5 5 rfl [nonce] #[.int .i64 nonce] rfl _ _ 1 (by simp) (by simp) rfl (by omega)).mono ?_); rintro e w2 ⟨A, n, c, ok, rfl, hp⟩)
    | fail)
  go_ret2
  exact hp

set_option maxRecDepth 100000 in
set_option maxHeartbeats 800000 in
theorem pay3 (name text : ByteArray) (ver frm nonce err : Int) (w : World) :
    Calls Try.prog 59 #[.agg #[.int .i64 3, .string name, .int .i64 ver, .int .i64 frm, .int .i64 nonce, .int .i64 err, .string text]] w (PayOut w (numsS [3] [nonce, ver])) := by
  go_enter Try.func59, Try.ntmps59
  go_wp2_with (first
    | (go_at_call 66; (refine (nums_new w _ (below_box w _) 3 3 rfl [nonce, ver] #[.int .i64 nonce, .int .i64 ver] rfl _ _ 2 (by simp) (by simp) rfl (by omega)).mono ?_); rintro e w2 ⟨A, n, c, ok, rfl, hp⟩)
    | fail)
  go_ret2
  exact hp

/-- numbers over a new list, where more is appended behind it. -/
theorem nums_more (w W1 : World) (hW : Below w.heap.size w W1) (x : UInt8) (xi : Int) (hx : xi = (x.toNat : Int)) (zs : List Int) (cs : Array Value) (hcs : cs.toList = iv zs) (g1 g2 q : Nat) (hg1 : g1 = W1.heap.size) (hg2 : g2 = W1.heap.size + 1) (hq : q = zs.length) (hm : q ≤ 3) :
    Calls Try.prog 66 #[.slice (some ⟨g1, 0, none⟩) 1 1, .slice (some ⟨g2, 0, none⟩) q q] ((W1.alloc (.cells #[.int .u8 xi] 5)).alloc (.cells cs 3)) fun e w' => ∃ A n c ok ys, e = .returned (.tuple #[.slice A n c, .bool ok]) ∧ n ≤ 25 ∧ Own w' w.heap.size 5 1 A n c (bv ys) ∧ Below w.heap.size w w' ∧ ((ok = true ∧ numsS [x] zs = some ys ∧ n = ys.length) ∨ (ok = false ∧ numsS [x] zs = none)) := by
  subst hx hg1 hg2
  have hs := hW.size
  have h1 : Own ((W1.alloc (.cells #[.int .u8 (x.toNat : Int)] 5)).alloc (.cells cs 3)) w.heap.size 5 1 (some ⟨W1.heap.size, 0, none⟩) 1 1 (bv [x]) :=
    (Own.lit (w := W1) (cs := #[.int .u8 (x.toNat : Int)]) hs rfl (by unfold maxLen; omega)).alloc _
  have h2 : Own ((W1.alloc (.cells #[.int .u8 (x.toNat : Int)] 5)).alloc (.cells cs 3)) w.heap.size 3 1 (some ⟨W1.heap.size + 1, 0, none⟩) q q (iv zs) := by
    have := Own.lit (w := W1.alloc (.cells #[.int .u8 (x.toNat : Int)] 5)) (base := w.heap.size) (e := 3) (size := 1) (n := q) (cs := cs) (by simp; omega) (by rw [← Array.length_toList, hcs]; simp [iv, hq]) (by unfold maxLen; omega)
    rw [hcs] at this
    simpa using this
  have hb : Below w.heap.size w ((W1.alloc (.cells #[.int .u8 (x.toNat : Int)] 5)).alloc (.cells cs 3)) := (hW.alloc hs _).alloc (by simp; omega) _
  refine (numbers_any w.heap.size 1 [x] zs _ 1 _ q q _ hb.size h1 h2 hq (by omega)).mono ?_
  rintro e w' ⟨hb2, h⟩
  rcases h with ⟨hall, A, c, rfl, ho⟩ | ⟨⟨z, hz, hf⟩, rfl⟩
  · have hz : zs.all mayS = true := List.all_eq_true.2 hall
    refine ⟨A, _, c, true, [x] ++ flatB zs, rfl, by omega, ho, hb.trans hb2, .inl ⟨rfl, by rw [numsS, if_pos hz], ?_⟩⟩
    rw [List.length_append, flatB_len]
    rfl
  · have hn : ¬ zs.all mayS = true := fun h => by
      rw [List.all_eq_true.1 h z hz] at hf
      cases hf
    exact ⟨none, 0, 0, false, [], rfl, by omega, Own.nil_ _ _ _ _, hb.trans hb2, .inr ⟨rfl, by rw [numsS, if_neg hn]⟩⟩

set_option maxRecDepth 100000 in
set_option maxHeartbeats 800000 in
theorem pay0 (kind : Int) (name text : ByteArray) (ver frm nonce err : Int) (w : World) (h1 : (kind == 1) = false) (h2 : (kind == 2) = false) (h3 : (kind == 3) = false) (h4 : (kind == 4) = false) (h5 : (kind == 5) = false) :
    Calls Try.prog 59 #[.agg #[.int .i64 kind, .string name, .int .i64 ver, .int .i64 frm, .int .i64 nonce, .int .i64 err, .string text]] w (PayOut w none) := by
  go_enter Try.func59, Try.ntmps59
  go_wp2
  go_ret2
  exact ⟨(below_box w _).alloc (by simp) _, _, rfl⟩

def errS (o : Option (List UInt8)) (err : Nat) : Option (List UInt8) := if 1 ≤ err ∧ err ≤ 65535 then o.map (· ++ beN err 2) else none

theorem two_bytes {err : Nat} (h : err ≤ 65535) : bv (beN err 2) = [.int .u8 ((err : Int) / 256), .int .u8 ((err : Int) % 256)] := by
  have e1 := digit_val err 1
  have e0 := digit_val err 0
  simp only [beN, List.range, List.range.loop, List.map, bv]
  rw [e1, e0]
  simp
  omega

set_option maxRecDepth 100000 in
set_option maxHeartbeats 800000 in
theorem pay4 (name text : ByteArray) (ver frm nonce : Int) (err : Nat) (w : World) (h1 : 1 ≤ err) (h2 : err ≤ 65535) :
    Calls Try.prog 59 #[.agg #[.int .i64 4, .string name, .int .i64 ver, .int .i64 frm, .int .i64 nonce, .int .i64 err, .string text]] w (PayOut w (errS (numsS [4] [nonce, ver]) err)) := by
  have t1 : (1 : Int) ≤ (err : Int) := by omega
  have t2 : (err : Int) ≤ 65535 := by omega
  go_enter Try.func59, Try.ntmps59
  go_wp2_with (first
    | (go_at_call 66; (refine (nums_more _ _ (Below.refl _ _) 4 4 rfl [nonce, ver] #[.int .i64 nonce, .int .i64 ver] rfl _ _ 2 (by simp) (by simp) rfl (by omega)).mono ?_); rintro e w2 ⟨A, n, c, ok, ys, rfl, hn, hA, hb, hfin⟩; have c5 : w2.cell? ⟨w.heap.size, 5, none⟩ = some (.int .i64 (err : Int)) := (hb.cell (by simp)).trans (new_cell rfl rfl))
    | (at_builtin; (refine wpList_app_new rfl (.tmp 104) (.tmp 112) 22 rfl (w.heap.size + 1) 5 1 1 Try.el22 A n c _ rfl (by simpa using hA) _ w2.heap.size 2 2 (by simp) rfl rfl (by intro u hu; simp at hu; rcases hu with rfl | rfl <;> rfl) (n + 2) _ rfl rfl (by omega) (by unfold maxLen; omega) (by have := hb.size; simp at this; omega) ?_); intro A3 c3 w3 h3 hg3 hat3)
    | fail)
  go_ret2
  have hbw : Below w.heap.size w w2 := (below_box w _).trans (hb.mono (by simp))
  have hb3 := below_own hbw hg3 (hA.base_le (by simp)) hbw.size
  refine ⟨hb3, ?_⟩
  rcases hfin with ⟨rfl, ho, hl⟩ | ⟨rfl, ho⟩
  · rw [ho, errS, if_pos ⟨h1, h2⟩]
    have hl2 : (ys ++ beN err 2).length = n + 2 := by rw [List.length_append, ← hl, beN_len]
    simp only [Option.map_some]
    rw [hl2, bv_append, two_bytes h2]
    exact ⟨A3, c3, rfl, h3.base_le (by omega)⟩
  · rw [ho, errS, if_pos ⟨h1, h2⟩]
    exact ⟨_, rfl⟩

set_option maxRecDepth 100000 in
set_option maxHeartbeats 800000 in
theorem pay4_bad (name text : ByteArray) (ver frm nonce err : Int) (w : World) (h : err < 1 ∨ (1 ≤ err ∧ 65535 < err)) :
    Calls Try.prog 59 #[.agg #[.int .i64 4, .string name, .int .i64 ver, .int .i64 frm, .int .i64 nonce, .int .i64 err, .string text]] w (PayOut w none) := by
  rcases h with h1 | ⟨h1, h2⟩
  all_goals
    go_enter Try.func59, Try.ntmps59
    go_wp2_with (first
      | (go_at_call 66; refine (nums_more _ _ (Below.refl _ _) 4 4 rfl [nonce, ver] #[.int .i64 nonce, .int .i64 ver] rfl _ _ 2 (by simp) (by simp) rfl (by omega)).mono ?_; rintro e w2 ⟨A, n, c, ok, ys, rfl, hn, hA, hb, hfin⟩; have c5 : w2.cell? ⟨w.heap.size, 5, none⟩ = some (.int .i64 err) := (hb.cell (by simp)).trans (new_cell rfl rfl))
      | fail)
    go_ret2
    exact ⟨(below_box w _).trans (hb.mono (by simp)), _, rfl⟩

end Go.Proofs.Ytbhjcfhpabnadaa
